/-
  Contracts of SameTexts, SameInts, SameGroup, SameGroups at what is the same.
-/
import Derived.Test.YtdahgfopighhlaaSG
namespace Go.Proofs.Ytdahgfopighhlaa
open Go.RowKit
set_option linter.unusedVariables false
set_option maxRecDepth 100000
/-- A slice reads as numbers. -/
def RdInts (w : World) (v : Value) (zs : List Int) : Prop :=
  ∃ a cap, v = .slice a zs.length cap ∧ (0 < zs.length → ∃ g off, a = some ⟨g, off, none⟩ ∧ g < w.heap.size ∧ ∀ i (h : i < zs.length), w.cell? ⟨g, off + i, none⟩ = some (.int .i64 zs[i]))
theorem RdInts.below {w w' : World} {v : Value} {zs : List Int} (h : RdInts w v zs) (hb : Below w.heap.size w w') : RdInts w' v zs := by
  obtain ⟨a, cap, hv, hc⟩ := h
  exact ⟨a, cap, hv, fun h0 => by
    obtain ⟨g, off, ha, hg, hcc⟩ := hc h0
    exact ⟨g, off, ha, Nat.lt_of_lt_of_le hg hb.size, fun i h => (hb.cell (p := ⟨g, off + i, none⟩) hg).trans (hcc i h)⟩⟩
theorem RdInts.of_row {w : World} {v : Value} {zs : List Int} (h : RowI w v zs) : RdInts w v zs := by
  have h' := h
  obtain ⟨g, cap, cur, rfl, hh, ht⟩ := h'
  exact ⟨_, cap, rfl, fun _ => ⟨g, 0, rfl, (Array.getElem?_eq_some_iff.1 hh).1, fun i hi => by rw [Nat.zero_add]; exact h.cell hi⟩⟩
/-- A group lies at an address. -/
def GrpAt (w : World) (g o : Nat) (x : Grp) (sv : Value) : Prop :=
  w.cell? ⟨g, o, none⟩ = some (.int .i64 x.lvl) ∧ w.cell? ⟨g, o + 1, none⟩ = some (.string x.name) ∧ w.cell? ⟨g, o + 2, none⟩ = some (.int .i64 x.up) ∧ w.cell? ⟨g, o + 3, none⟩ = some sv
def RdGrps (w : World) (v : Value) (gs : List Grp) : Prop :=
  ∃ a cap, v = .slice a gs.length cap ∧ (0 < gs.length → ∃ g off, a = some ⟨g, off, none⟩ ∧ g < w.heap.size ∧ ∀ i (h : i < gs.length), ∃ sv, RdInts w sv gs[i].items ∧ GrpAt w g (off + i * 4) gs[i] sv)
theorem GrpAt.below {w w' : World} {g o : Nat} {x : Grp} {sv : Value} {B : Nat} (h : GrpAt w g o x sv) (hb : Below B w w') (hg : g < B) : GrpAt w' g o x sv :=
  ⟨(hb.cell (p := ⟨g, o, none⟩) hg).trans h.1, (hb.cell (p := ⟨g, o + 1, none⟩) hg).trans h.2.1, (hb.cell (p := ⟨g, o + 2, none⟩) hg).trans h.2.2.1, (hb.cell (p := ⟨g, o + 3, none⟩) hg).trans h.2.2.2⟩
theorem RdGrps.below {w w' : World} {v : Value} {gs : List Grp} (h : RdGrps w v gs) (hb : Below w.heap.size w w') : RdGrps w' v gs := by
  obtain ⟨a, cap, hv, hc⟩ := h
  exact ⟨a, cap, hv, fun h0 => by
    obtain ⟨g, off, ha, hg, hcc⟩ := hc h0
    exact ⟨g, off, ha, Nat.lt_of_lt_of_le hg hb.size, fun i h => by
      obtain ⟨sv, h1, h2⟩ := hcc i h
      exact ⟨sv, h1.below hb, h2.below hb hg⟩⟩⟩
theorem RdGrps.of_owns {w : World} {base : Nat} {v : Value} {gs : List Grp} (h : OwnsG w base v gs) : RdGrps w v gs := by
  have h' := h
  obtain ⟨L, hL, _, ho⟩ := h'
  have hl : L.length = gs.length := by rw [← hL, List.length_map]
  rw [hl] at ho
  rcases Joins.ownsRow_forms ho with ⟨rfl, hp⟩ | ⟨g, cap, rfl⟩
  · obtain rfl : gs = [] := List.length_eq_zero_iff.1 hp
    exact ⟨none, 0, rfl, fun h => absurd h (by simp)⟩
  · exact ⟨_, cap, rfl, fun _ => ⟨g, 0, rfl, (ho.lt g rfl).2, fun i hi => by
      obtain ⟨su, c0, c1, c2, c3, hr, _⟩ := h.slot hi
      rw [Nat.zero_add]
      exact ⟨su, RdInts.of_row hr, c0, c1, c2, c3⟩⟩⟩
set_option maxHeartbeats 1000000 in
theorem sameTexts_true (xs : List ByteArray) (va vb : Value) (w : World) (hx : ReadsT w va xs) (hy : ReadsT w vb xs) (hl : xs.length ≤ 100000) :
    Calls Try.prog 21 #[va, vb] w fun e w' => e = .returned (.bool true) ∧ Below w.heap.size w w' := by
  obtain ⟨a, ca, rfl, hax⟩ := hx
  obtain ⟨b, cb, rfl, hby⟩ := hy
  have HX := Lib.hid hax
  have HY := Lib.hid hby
  clear hax hby
  have hne : ((xs.length : Int) != (xs.length : Int)) = false := by simp
  go_enter Try.func21, Try.ntmps21
  go_wp2_with fail
  go_loopw [5] (fun i wr => ∃ k : Nat, k ≤ xs.length ∧ i = .int .i64 k ∧ Below w.heap.size w wr) (fun i _ => xs.length - (intOf i).toNat)
  case atStart => exact ⟨0, Nat.zero_le _, rfl, Below.refl _ _⟩
  case round =>
    obtain ⟨k, hk, rfl, hb⟩ := hrel
    by_cases hlt : k < xs.length
    · obtain ⟨gx, ox, rfl, hgx, hcx⟩ := HX.out (by omega)
      obtain ⟨gy, oy, rfl, hgy, hcy⟩ := HY.out (by omega)
      have c1 : wr.cell? ⟨gx, ox + k, none⟩ = some (.string xs[k]) := (hb.cell (p := ⟨gx, ox + k, none⟩) hgx).trans (hcx k hlt)
      have c2 : wr.cell? ⟨gy, oy + k, none⟩ = some (.string xs[k]) := (hb.cell (p := ⟨gy, oy + k, none⟩) hgy).trans (hcy k hlt)
      clear hcx hcy HX HY
      generalize xs[k] = x at c1 c2
      go_wp2_with fail
      go_quiet (fail)
      go_wp2_with fail
      go_roundw
      case rel => exact ⟨k + 1, by omega, by go_num, below_drewN hb _⟩
      case measure => simp [intOf]; omega
    · go_wp2_with fail
      go_ret
      exact ⟨rfl, hb⟩
set_option maxHeartbeats 1000000 in
theorem sameInts_true (xs : List Int) (va vb : Value) (w : World) (hx : RdInts w va xs) (hy : RdInts w vb xs) (hl : xs.length ≤ 100000) :
    Calls Try.prog 33 #[va, vb] w fun e w' => e = .returned (.bool true) ∧ Below w.heap.size w w' := by
  obtain ⟨a, ca, rfl, hax⟩ := hx
  obtain ⟨b, cb, rfl, hby⟩ := hy
  have HX := Lib.hid hax
  have HY := Lib.hid hby
  clear hax hby
  have hne : ((xs.length : Int) != (xs.length : Int)) = false := by simp
  go_enter Try.func33, Try.ntmps33
  go_wp2_with fail
  go_loopw [5] (fun i wr => ∃ k : Nat, k ≤ xs.length ∧ i = .int .i64 k ∧ Below w.heap.size w wr) (fun i _ => xs.length - (intOf i).toNat)
  case atStart => exact ⟨0, Nat.zero_le _, rfl, Below.refl _ _⟩
  case round =>
    obtain ⟨k, hk, rfl, hb⟩ := hrel
    by_cases hlt : k < xs.length
    · obtain ⟨gx, ox, rfl, hgx, hcx⟩ := HX.out (by omega)
      obtain ⟨gy, oy, rfl, hgy, hcy⟩ := HY.out (by omega)
      have c1 : wr.cell? ⟨gx, ox + k, none⟩ = some (.int .i64 xs[k]) := (hb.cell (p := ⟨gx, ox + k, none⟩) hgx).trans (hcx k hlt)
      have c2 : wr.cell? ⟨gy, oy + k, none⟩ = some (.int .i64 xs[k]) := (hb.cell (p := ⟨gy, oy + k, none⟩) hgy).trans (hcy k hlt)
      clear hcx hcy HX HY
      generalize xs[k] = x at c1 c2
      have hxx : (x != x) = false := by simp
      go_wp2_with fail
      go_quiet (fail)
      go_wp2_with fail
      go_roundw
      case rel => exact ⟨k + 1, by omega, by go_num, below_drewN hb _⟩
      case measure => simp [intOf]; omega
    · go_wp2_with fail
      go_ret
      exact ⟨rfl, hb⟩
def grpA (x : Grp) (sv : Value) : Value := .agg #[.int .i64 x.lvl, .string x.name, .int .i64 x.up, sv]
set_option maxHeartbeats 1000000 in
theorem sameGroup_true (x : Grp) (va vb : Value) (w : World) (hx : RdInts w va x.items) (hy : RdInts w vb x.items) (hl : x.items.length ≤ 100000) :
    Calls Try.prog 15 #[grpA x va, grpA x vb] w fun e w' => e = .returned (.bool true) ∧ Below w.heap.size w w' := by
  have H := Lib.hid (fun W (h : Below w.heap.size w W) => sameInts_true x.items va vb W (hx.below h) (hy.below h) hl)
  obtain ⟨a, ca, rfl, _⟩ := hx
  obtain ⟨b, cb, rfl, _⟩ := hy
  unfold grpA
  have h1 : (x.lvl == x.lvl) = true := by simp
  have h2 : (x.up == x.up) = true := by simp
  go_enter Try.func15, Try.ntmps15
  go_wp2_with (go_at_call 33; refine (H.out _ (((Below.refl _ w).alloc (Nat.le_refl _) _).alloc (by simp) _)).mono ?_; rintro e w1 ⟨rfl, hb1⟩)
  go_ret
  exact ⟨rfl, below_c (((Below.refl _ w).alloc (Nat.le_refl _) _).alloc (by simp) _) (by simp; omega) hb1⟩
set_option maxHeartbeats 2000000 in
theorem sameGroups_true (gs : List Grp) (va vb : Value) (w : World) (hx : RdGrps w va gs) (hy : RdGrps w vb gs) (hl : gs.length ≤ 100000) (hi : ∀ g ∈ gs, g.items.length ≤ 100000) :
    Calls Try.prog 22 #[va, vb] w fun e w' => e = .returned (.bool true) ∧ Below w.heap.size w w' := by
  obtain ⟨a, ca, rfl, hax⟩ := hx
  obtain ⟨b, cb, rfl, hby⟩ := hy
  have HX := Lib.hid hax
  have HY := Lib.hid hby
  have HI := Lib.hid hi
  clear hax hby hi
  have hne : ((gs.length : Int) != (gs.length : Int)) = false := by simp
  go_enter Try.func22, Try.ntmps22
  go_wp2_with fail
  go_loopw [5] (fun i wr => ∃ k : Nat, k ≤ gs.length ∧ i = .int .i64 k ∧ Below w.heap.size w wr) (fun i _ => gs.length - (intOf i).toNat)
  case atStart => exact ⟨0, Nat.zero_le _, rfl, Below.refl _ _⟩
  case round =>
    obtain ⟨k, hk, rfl, hb⟩ := hrel
    by_cases hlt : k < gs.length
    · obtain ⟨gx, ox, rfl, hgx, hcx⟩ := HX.out (by omega)
      obtain ⟨gy, oy, rfl, hgy, hcy⟩ := HY.out (by omega)
      obtain ⟨sx, rx, ax⟩ := hcx k hlt
      obtain ⟨sy, ry, ay⟩ := hcy k hlt
      have H := Lib.hid (fun W (h : Below w.heap.size w W) => sameGroup_true gs[k] sx sy W (rx.below h) (ry.below h) (HI.out _ (List.getElem_mem hlt)))
      unfold grpA at H
      obtain ⟨x0, x1, x2, x3⟩ := ax.below hb hgx
      obtain ⟨y0, y1, y2, y3⟩ := ay.below hb hgy
      clear hcx hcy HX HY rx ry ax ay
      generalize gs[k] = x at x0 x1 x2 x3 y0 y1 y2 y3 H
      go_wp2_with fail
      go_region_with (go_at_call 15; refine (H.out _ hb.drew).mono ?_; rintro e w2 ⟨rfl, hb2⟩)
      all_goals
        go_wp2_with fail
        go_roundw
        case rel => exact ⟨k + 1, by omega, by go_num, below_c hb.drew hb.drew.size hb2⟩
        case measure => simp [intOf]; omega
    · go_wp2_with fail
      go_ret
      exact ⟨rfl, hb⟩
end Go.Proofs.Ytdahgfopighhlaa
