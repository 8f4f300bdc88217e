/-
  letterbagkit.SameLoad at what is the same.
-/
import Derived.Test.YtelklmdlodgdpaaGreatTM
namespace Go.Proofs.YtelklmdlodgdpaaGreat
open Go.RowKit Go.Sort
set_option linter.unusedVariables false
set_option maxRecDepth 100000
set_option maxHeartbeats 2000000 in
theorem sameBundle_true (x : Bun) (va vb : Value) (w : World) (hx : RdInts w va x.ids) (hy : RdInts w vb x.ids) (hl : x.ids.length ≤ 100000) :
    Calls Tryz.prog 67 #[.agg #[.int .i64 x.lvl, .string x.grp, va, .int .i64 x.grams], .agg #[.int .i64 x.lvl, .string x.grp, vb, .int .i64 x.grams]] w fun e w' => e = .returned (.bool true) ∧ Below w.heap.size w w' := by
  have H := Lib.hid (fun W (h : Below w.heap.size w W) => sameInts_true x.ids va vb W (hx.below h) (hy.below h) hl)
  obtain ⟨a, ca, rfl, _⟩ := hx
  obtain ⟨b, cb, rfl, _⟩ := hy
  have h1 : (x.lvl == x.lvl) = true := by simp
  have h2 : (x.grams == x.grams) = true := by simp
  obtain ⟨w2, hw2⟩ : ∃ w2, w2 = (w.alloc (.cells #[.int .i64 x.lvl, .string x.grp, .slice a x.ids.length ca, .int .i64 x.grams] 47)).alloc (.cells #[.int .i64 x.lvl, .string x.grp, .slice b x.ids.length cb, .int .i64 x.grams] 47) := ⟨_, rfl⟩
  obtain ⟨g1, g2, z2, bb2⟩ := boxes2 hw2
  have HW2 := Lib.hid hw2
  have HB2 := Lib.hid bb2
  have HL := Lib.hid (fun (W : World) (hB : Below w2.heap.size w2 W) => And.intro (cells4 ((hB.block _ (by omega)).trans g1)) (cells4 ((hB.block _ (by omega)).trans g2)))
  clear hw2 g1 g2 z2 bb2
  obtain ⟨⟨x0, x1, x2, x3⟩, y0, y1, y2, y3⟩ := HL.out w2 (Below.refl _ _)
  go_enter Tryz.func67, Tryz.ntmps67
  go_upto_region 1 with fail
  rw [← HW2.out]
  go_wp2_with (go_at_call 90; refine (H.out _ HB2.out).mono ?_; rintro e w1 ⟨rfl, hb1⟩; obtain ⟨⟨u0, u1, u2, u3⟩, v0, v1, v2, v3⟩ := HL.out w1 hb1)
  go_ret
  exact ⟨rfl, below_c HB2.out HB2.out.size hb1⟩
set_option maxHeartbeats 4000000 in
theorem sameBundles_true (xs : List Bun) (va vb : Value) (w : World) (hx : RdX 4 bunCell (fun b : Bun => b.ids) w va xs) (hy : RdX 4 bunCell (fun b : Bun => b.ids) w vb xs) (hl : xs.length ≤ 100000) (hi : ∀ x ∈ xs, x.ids.length ≤ 100000) :
    Calls Tryz.prog 43 #[va, vb] w fun e w' => e = .returned (.bool true) ∧ Below w.heap.size w w' := by
  obtain ⟨a, ca, rfl, hax⟩ := hx
  obtain ⟨b, cb, rfl, hby⟩ := hy
  have HX := Lib.hid hax
  have HY := Lib.hid hby
  have HI := Lib.hid hi
  clear hax hby hi
  have hne : ((xs.length : Int) != (xs.length : Int)) = false := by simp
  go_enter Tryz.func43, Tryz.ntmps43
  go_wp2_with fail
  go_loopw [5] (fun i wr => ∃ k : Nat, k ≤ xs.length ∧ i = .int .i64 k ∧ Below w.heap.size w wr) (fun i _ => xs.length - (intOf i).toNat)
  case atStart => exact ⟨0, Nat.zero_le _, rfl, Below.refl _ _⟩
  case round =>
    obtain ⟨k, hk, rfl, hb⟩ := hrel
    by_cases hlt : k < xs.length
    · obtain ⟨gx, ox, rfl, hgx, hcx⟩ := HX.out (by omega)
      obtain ⟨gy, oy, rfl, hgy, hcy⟩ := HY.out (by omega)
      obtain ⟨sx, rx, ax⟩ := hcx k hlt
      obtain ⟨sy, ry, ay⟩ := hcy k hlt
      have H := Lib.hid (fun W (h : Below w.heap.size w W) => sameBundle_true xs[k] sx sy W (rx.below h) (ry.below h) (HI.out _ (List.getElem_mem hlt)))
      obtain ⟨x, hxe⟩ : ∃ x, x = xs[k] := ⟨_, rfl⟩
      rw [← hxe] at ax ay H
      have x0 : wr.cell? ⟨gx, ox + k * 4, none⟩ = some (.int .i64 x.lvl) := (hb.cell (p := ⟨gx, ox + k * 4, none⟩) hgx).trans (ax 0 _ rfl)
      have x1 : wr.cell? ⟨gx, ox + k * 4 + 1, none⟩ = some (.string x.grp) := (hb.cell (p := ⟨gx, ox + k * 4 + 1, none⟩) hgx).trans (ax 1 _ rfl)
      have x2 : wr.cell? ⟨gx, ox + k * 4 + 2, none⟩ = some (sx) := (hb.cell (p := ⟨gx, ox + k * 4 + 2, none⟩) hgx).trans (ax 2 _ rfl)
      have x3 : wr.cell? ⟨gx, ox + k * 4 + 3, none⟩ = some (.int .i64 x.grams) := (hb.cell (p := ⟨gx, ox + k * 4 + 3, none⟩) hgx).trans (ax 3 _ rfl)
      have y0 : wr.cell? ⟨gy, oy + k * 4, none⟩ = some (.int .i64 x.lvl) := (hb.cell (p := ⟨gy, oy + k * 4, none⟩) hgy).trans (ay 0 _ rfl)
      have y1 : wr.cell? ⟨gy, oy + k * 4 + 1, none⟩ = some (.string x.grp) := (hb.cell (p := ⟨gy, oy + k * 4 + 1, none⟩) hgy).trans (ay 1 _ rfl)
      have y2 : wr.cell? ⟨gy, oy + k * 4 + 2, none⟩ = some (sy) := (hb.cell (p := ⟨gy, oy + k * 4 + 2, none⟩) hgy).trans (ay 2 _ rfl)
      have y3 : wr.cell? ⟨gy, oy + k * 4 + 3, none⟩ = some (.int .i64 x.grams) := (hb.cell (p := ⟨gy, oy + k * 4 + 3, none⟩) hgy).trans (ay 3 _ rfl)
      clear hcx hcy HX HY rx ry ax ay hxe
      go_wp2_with fail
      go_region_with (go_at_call 67; refine (H.out _ hb.drew).mono ?_; rintro e w2 ⟨rfl, hb2⟩)
      all_goals
        go_wp2_with fail
        go_roundw
        case rel => exact ⟨k + 1, by omega, by go_num, below_c hb.drew hb.drew.size hb2⟩
        case measure => simp [intOf]; omega
    · go_wp2_with fail
      go_ret
      exact ⟨rfl, hb⟩
set_option maxHeartbeats 2000000 in
theorem sameTray_true (x : Tra) (va vb : Value) (w : World) (hx : RdInts w va x.bs) (hy : RdInts w vb x.bs) (hl : x.bs.length ≤ 100000) :
    Calls Tryz.prog 68 #[.agg #[.int .i64 x.lvl, .string x.grp, va], .agg #[.int .i64 x.lvl, .string x.grp, vb]] w fun e w' => e = .returned (.bool true) ∧ Below w.heap.size w w' := by
  have H := Lib.hid (fun W (h : Below w.heap.size w W) => sameInts_true x.bs va vb W (hx.below h) (hy.below h) hl)
  obtain ⟨a, ca, rfl, _⟩ := hx
  obtain ⟨b, cb, rfl, _⟩ := hy
  have h1 : (x.lvl == x.lvl) = true := by simp
  go_enter Tryz.func68, Tryz.ntmps68
  go_wp2_with (go_at_call 90; refine (H.out _ (((Below.refl _ w).alloc (Nat.le_refl _) _).alloc (by simp) _)).mono ?_; rintro e w1 ⟨rfl, hb1⟩)
  go_ret
  exact ⟨rfl, below_c (((Below.refl _ w).alloc (Nat.le_refl _) _).alloc (by simp) _) (by simp; omega) hb1⟩
set_option maxHeartbeats 4000000 in
theorem sameTrays_true (xs : List Tra) (va vb : Value) (w : World) (hx : RdX 3 traCell (fun b : Tra => b.bs) w va xs) (hy : RdX 3 traCell (fun b : Tra => b.bs) w vb xs) (hl : xs.length ≤ 100000) (hi : ∀ x ∈ xs, x.bs.length ≤ 100000) :
    Calls Tryz.prog 44 #[va, vb] w fun e w' => e = .returned (.bool true) ∧ Below w.heap.size w w' := by
  obtain ⟨a, ca, rfl, hax⟩ := hx
  obtain ⟨b, cb, rfl, hby⟩ := hy
  have HX := Lib.hid hax
  have HY := Lib.hid hby
  have HI := Lib.hid hi
  clear hax hby hi
  have hne : ((xs.length : Int) != (xs.length : Int)) = false := by simp
  go_enter Tryz.func44, Tryz.ntmps44
  go_wp2_with fail
  go_loopw [5] (fun i wr => ∃ k : Nat, k ≤ xs.length ∧ i = .int .i64 k ∧ Below w.heap.size w wr) (fun i _ => xs.length - (intOf i).toNat)
  case atStart => exact ⟨0, Nat.zero_le _, rfl, Below.refl _ _⟩
  case round =>
    obtain ⟨k, hk, rfl, hb⟩ := hrel
    by_cases hlt : k < xs.length
    · obtain ⟨gx, ox, rfl, hgx, hcx⟩ := HX.out (by omega)
      obtain ⟨gy, oy, rfl, hgy, hcy⟩ := HY.out (by omega)
      obtain ⟨sx, rx, ax⟩ := hcx k hlt
      obtain ⟨sy, ry, ay⟩ := hcy k hlt
      have H := Lib.hid (fun W (h : Below w.heap.size w W) => sameTray_true xs[k] sx sy W (rx.below h) (ry.below h) (HI.out _ (List.getElem_mem hlt)))
      obtain ⟨x, hxe⟩ : ∃ x, x = xs[k] := ⟨_, rfl⟩
      rw [← hxe] at ax ay H
      have x0 : wr.cell? ⟨gx, ox + k * 3, none⟩ = some (.int .i64 x.lvl) := (hb.cell (p := ⟨gx, ox + k * 3, none⟩) hgx).trans (ax 0 _ rfl)
      have x1 : wr.cell? ⟨gx, ox + k * 3 + 1, none⟩ = some (.string x.grp) := (hb.cell (p := ⟨gx, ox + k * 3 + 1, none⟩) hgx).trans (ax 1 _ rfl)
      have x2 : wr.cell? ⟨gx, ox + k * 3 + 2, none⟩ = some (sx) := (hb.cell (p := ⟨gx, ox + k * 3 + 2, none⟩) hgx).trans (ax 2 _ rfl)
      have y0 : wr.cell? ⟨gy, oy + k * 3, none⟩ = some (.int .i64 x.lvl) := (hb.cell (p := ⟨gy, oy + k * 3, none⟩) hgy).trans (ay 0 _ rfl)
      have y1 : wr.cell? ⟨gy, oy + k * 3 + 1, none⟩ = some (.string x.grp) := (hb.cell (p := ⟨gy, oy + k * 3 + 1, none⟩) hgy).trans (ay 1 _ rfl)
      have y2 : wr.cell? ⟨gy, oy + k * 3 + 2, none⟩ = some (sy) := (hb.cell (p := ⟨gy, oy + k * 3 + 2, none⟩) hgy).trans (ay 2 _ rfl)
      clear hcx hcy HX HY rx ry ax ay hxe
      go_wp2_with fail
      go_region_with (go_at_call 68; refine (H.out _ hb.drew).mono ?_; rintro e w2 ⟨rfl, hb2⟩)
      all_goals
        go_wp2_with fail
        go_roundw
        case rel => exact ⟨k + 1, by omega, by go_num, below_c hb.drew hb.drew.size hb2⟩
        case measure => simp [intOf]; omega
    · go_wp2_with fail
      go_ret
      exact ⟨rfl, hb⟩
set_option maxHeartbeats 2000000 in
theorem sameContainer_true (x : Con) (va vb : Value) (w : World) (hx : RdInts w va x.ts) (hy : RdInts w vb x.ts) (hl : x.ts.length ≤ 100000) :
    Calls Tryz.prog 69 #[.agg #[.int .i64 x.lvl, va], .agg #[.int .i64 x.lvl, vb]] w fun e w' => e = .returned (.bool true) ∧ Below w.heap.size w w' := by
  have H := Lib.hid (fun W (h : Below w.heap.size w W) => sameInts_true x.ts va vb W (hx.below h) (hy.below h) hl)
  obtain ⟨a, ca, rfl, _⟩ := hx
  obtain ⟨b, cb, rfl, _⟩ := hy
  have h1 : (x.lvl == x.lvl) = true := by simp
  go_enter Tryz.func69, Tryz.ntmps69
  go_wp2_with (go_at_call 90; refine (H.out _ (((Below.refl _ w).alloc (Nat.le_refl _) _).alloc (by simp) _)).mono ?_; rintro e w1 ⟨rfl, hb1⟩)
  go_ret
  exact ⟨rfl, below_c (((Below.refl _ w).alloc (Nat.le_refl _) _).alloc (by simp) _) (by simp; omega) hb1⟩
set_option maxHeartbeats 4000000 in
theorem sameContainers_true (xs : List Con) (va vb : Value) (w : World) (hx : RdX 2 conCell (fun b : Con => b.ts) w va xs) (hy : RdX 2 conCell (fun b : Con => b.ts) w vb xs) (hl : xs.length ≤ 100000) (hi : ∀ x ∈ xs, x.ts.length ≤ 100000) :
    Calls Tryz.prog 45 #[va, vb] w fun e w' => e = .returned (.bool true) ∧ Below w.heap.size w w' := by
  obtain ⟨a, ca, rfl, hax⟩ := hx
  obtain ⟨b, cb, rfl, hby⟩ := hy
  have HX := Lib.hid hax
  have HY := Lib.hid hby
  have HI := Lib.hid hi
  clear hax hby hi
  have hne : ((xs.length : Int) != (xs.length : Int)) = false := by simp
  go_enter Tryz.func45, Tryz.ntmps45
  go_wp2_with fail
  go_loopw [5] (fun i wr => ∃ k : Nat, k ≤ xs.length ∧ i = .int .i64 k ∧ Below w.heap.size w wr) (fun i _ => xs.length - (intOf i).toNat)
  case atStart => exact ⟨0, Nat.zero_le _, rfl, Below.refl _ _⟩
  case round =>
    obtain ⟨k, hk, rfl, hb⟩ := hrel
    by_cases hlt : k < xs.length
    · obtain ⟨gx, ox, rfl, hgx, hcx⟩ := HX.out (by omega)
      obtain ⟨gy, oy, rfl, hgy, hcy⟩ := HY.out (by omega)
      obtain ⟨sx, rx, ax⟩ := hcx k hlt
      obtain ⟨sy, ry, ay⟩ := hcy k hlt
      have H := Lib.hid (fun W (h : Below w.heap.size w W) => sameContainer_true xs[k] sx sy W (rx.below h) (ry.below h) (HI.out _ (List.getElem_mem hlt)))
      obtain ⟨x, hxe⟩ : ∃ x, x = xs[k] := ⟨_, rfl⟩
      rw [← hxe] at ax ay H
      have x0 : wr.cell? ⟨gx, ox + k * 2, none⟩ = some (.int .i64 x.lvl) := (hb.cell (p := ⟨gx, ox + k * 2, none⟩) hgx).trans (ax 0 _ rfl)
      have x1 : wr.cell? ⟨gx, ox + k * 2 + 1, none⟩ = some (sx) := (hb.cell (p := ⟨gx, ox + k * 2 + 1, none⟩) hgx).trans (ax 1 _ rfl)
      have y0 : wr.cell? ⟨gy, oy + k * 2, none⟩ = some (.int .i64 x.lvl) := (hb.cell (p := ⟨gy, oy + k * 2, none⟩) hgy).trans (ay 0 _ rfl)
      have y1 : wr.cell? ⟨gy, oy + k * 2 + 1, none⟩ = some (sy) := (hb.cell (p := ⟨gy, oy + k * 2 + 1, none⟩) hgy).trans (ay 1 _ rfl)
      clear hcx hcy HX HY rx ry ax ay hxe
      go_wp2_with fail
      go_region_with (go_at_call 69; refine (H.out _ hb.drew).mono ?_; rintro e w2 ⟨rfl, hb2⟩)
      all_goals
        go_wp2_with fail
        go_roundw
        case rel => exact ⟨k + 1, by omega, by go_num, below_c hb.drew hb.drew.size hb2⟩
        case measure => simp [intOf]; omega
    · go_wp2_with fail
      go_ret
      exact ⟨rfl, hb⟩
set_option maxHeartbeats 4000000 in
theorem sameLoad_true {l : Lod} {ab at' ac bb bt bc : Value} {w : World} (hx : RdLod w ab at' ac l) (hy : RdLod w bb bt bc l) (hs : SmallL l) :
    Calls Tryz.prog 18 #[lodV ab at' ac, lodV bb bt bc] w fun e w' => e = .returned (.bool true) ∧ Below w.heap.size w w' := by
  have HB := Lib.hid (fun W (h : Below w.heap.size w W) => sameBundles_true l.buns ab bb W (hx.b.below h) (hy.b.below h) hs.b (fun x hx => part_le hs.bi x hx))
  have HT := Lib.hid (fun W (h : Below w.heap.size w W) => sameTrays_true l.tras at' bt W (hx.t.below h) (hy.t.below h) hs.t (fun x hx => part_le hs.ti x hx))
  have HC := Lib.hid (fun W (h : Below w.heap.size w W) => sameContainers_true l.cons ac bc W (hx.c.below h) (hy.c.below h) hs.c (fun x hx => part_le hs.ci x hx))
  obtain ⟨a1, c1, rfl, _⟩ := hx.b
  obtain ⟨a2, c2, rfl, _⟩ := hx.t
  obtain ⟨a3, c3, rfl, _⟩ := hx.c
  obtain ⟨b1, d1, rfl, _⟩ := hy.b
  obtain ⟨b2, d2, rfl, _⟩ := hy.t
  obtain ⟨b3, d3, rfl, _⟩ := hy.c
  clear hx hy hs
  unfold lodV
  obtain ⟨w2, hw2⟩ : ∃ w2, w2 = (w.alloc (.cells #[.slice a1 l.buns.length c1, .slice a2 l.tras.length c2, .slice a3 l.cons.length c3] 39)).alloc (.cells #[.slice b1 l.buns.length d1, .slice b2 l.tras.length d2, .slice b3 l.cons.length d3] 39) := ⟨_, rfl⟩
  obtain ⟨g1, g2, z2, bb2⟩ := boxes2 hw2
  have HW2 := Lib.hid hw2
  have HB2 := Lib.hid bb2
  have HL := Lib.hid (fun (W : World) (hB : Below w2.heap.size w2 W) => And.intro (cells3 ((hB.block _ (by omega)).trans g1)) (cells3 ((hB.block _ (by omega)).trans g2)))
  clear hw2 g1 g2 z2 bb2
  obtain ⟨⟨x0, x1, x2⟩, y0, y1, y2⟩ := HL.out w2 (Below.refl _ _)
  go_enter Tryz.func18, Tryz.ntmps18
  go_upto_region 1 with fail
  rw [← HW2.out]
  go_wp2_with (first
    | (go_at_call 43; refine (HB.out _ HB2.out).mono ?_; rintro e w3 ⟨rfl, hb3⟩; have hw3 := Below.trans HB2.out (hb3.mono HB2.out.size); obtain ⟨⟨u0, u1, u2⟩, v0, v1, v2⟩ := HL.out w3 hb3)
    | (go_at_call 44; refine (HT.out _ hw3).mono ?_; rintro e w4 ⟨rfl, hb4⟩; have hw4 := hw3.trans (hb4.mono hw3.size); obtain ⟨⟨p0, p1, p2⟩, q0, q1, q2⟩ := HL.out w4 (hb3.trans (hb4.mono hb3.size)))
    | (go_at_call 45; refine (HC.out _ hw4).mono ?_; rintro e w5 ⟨rfl, hb5⟩))
  go_ret
  exact ⟨rfl, hw4.trans (hb5.mono hw4.size)⟩
end Go.Proofs.YtelklmdlodgdpaaGreat
