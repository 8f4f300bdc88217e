/-
  tray.Where.
-/
import Derived.Test.YtelklmdlodgdpaaGreatTL
namespace Go.Proofs.YtelklmdlodgdpaaGreat
open Go.RowKit Go.Sort
set_option linter.unusedVariables false
set_option maxRecDepth 100000
/-- A load, read. -/
structure RdLod (w : World) (vb vt vc : Value) (l : Lod) : Prop where
  b : RdX 4 bunCell (fun b : Bun => b.ids) w vb l.buns
  t : RdX 3 traCell (fun t : Tra => t.bs) w vt l.tras
  c : RdX 2 conCell (fun c : Con => c.ts) w vc l.cons
theorem RdLod.below {w w' : World} {vb vt vc : Value} {l : Lod} (h : RdLod w vb vt vc l) (hb : Below w.heap.size w w') : RdLod w' vb vt vc l := ⟨h.b.below hb, h.t.below hb, h.c.below hb⟩
/-- No part of a load is great. -/
structure SmallL (l : Lod) : Prop where
  b : l.buns.length ≤ 100000
  t : l.tras.length ≤ 100000
  c : l.cons.length ≤ 100000
  bi : (l.buns.flatMap (fun b => b.ids)).length ≤ 100000
  ti : (l.tras.flatMap (fun t => t.bs)).length ≤ 100000
  ci : (l.cons.flatMap (fun c => c.ts)).length ≤ 100000
theorem part_le {α : Type} {f : α → List Int} {L : List α} {n : Nat} (h : (L.flatMap f).length ≤ n) : ∀ x ∈ L, (f x).length ≤ n := fun x hx => by
  obtain ⟨A, B, rfl⟩ := List.append_of_mem hx
  rw [List.flatMap_append, List.flatMap_cons, List.length_append, List.length_append] at h
  omega
def bunIx (l : Lod) (id : Int) : Int := ixOf (fun b : Bun => b.ids.contains id) l.buns
def traIx (l : Lod) (b : Int) : Int := ixOf (fun t : Tra => t.bs.contains b) l.tras
def conIx (l : Lod) (t : Int) : Int := ixOf (fun c : Con => c.ts.contains t) l.cons
/-- What tray.Where answers. -/
def whereR (l : Lod) (id : Int) : Int × Int × Int × Bool :=
  if bunIx l id < 0 then (0, 0, 0, false) else if traIx l (bunIx l id) < 0 then (0, 0, 0, false) else if conIx l (traIx l (bunIx l id)) < 0 then (0, 0, 0, false) else (bunIx l id, traIx l (bunIx l id), conIx l (traIx l (bunIx l id)), true)
theorem results_tmp4 {fn : Func} {t u v x : Tmp} (h : fn.results = #[.tmp t, .tmp u, .tmp v, .tmp x]) (tmps : Array Value) (P : Program) (w : World) :
    (results fn tmps).run P w = .ok (.tuple #[tmps.getD t undef, tmps.getD u undef, tmps.getD v undef, tmps.getD x undef]) w := by
  simp [results, h]
set_option maxHeartbeats 8000000 in
theorem where_any (l : Lod) (id : Int) (vb vt vc : Value) (w : World) (hr : RdLod w vb vt vc l) (hs : SmallL l) :
    Calls Tryz.prog 14 #[lodV vb vt vc, .int .i64 id] w fun e w' => e = .returned (.tuple #[.int .i64 (whereR l id).1, .int .i64 (whereR l id).2.1, .int .i64 (whereR l id).2.2.1, .bool (whereR l id).2.2.2]) ∧ Below w.heap.size w w' := by
  have HB := Lib.hid (fun W X (hW : Below w.heap.size w W) hX hXl => ixB_any id X l.buns vb W (hr.b.below hW) hX hXl (by have := hs.b; omega) (fun b hb => Nat.le_trans (part_le hs.bi b hb) (by decide)))
  have HT := Lib.hid (fun x W X (hW : Below w.heap.size w W) hX hXl => ixT_any x X l.tras vt W (hr.t.below hW) hX hXl (by have := hs.t; omega) (fun b hb => Nat.le_trans (part_le hs.ti b hb) (by decide)))
  have HC := Lib.hid (fun x W X (hW : Below w.heap.size w W) hX hXl => ixC_any x X l.cons vc W (hr.c.below hW) hX hXl (by have := hs.c; omega) (fun b hb => Nat.le_trans (part_le hs.ci b hb) (by decide)))
  have hE : whereR l id = if bunIx l id < 0 then (0, 0, 0, false) else if traIx l (bunIx l id) < 0 then (0, 0, 0, false) else if conIx l (traIx l (bunIx l id)) < 0 then (0, 0, 0, false) else (bunIx l id, traIx l (bunIx l id), conIx l (traIx l (bunIx l id)), true) := rfl
  obtain ⟨ab, cb, hvb, _⟩ := hr.b
  obtain ⟨at', ct, hvt, _⟩ := hr.t
  obtain ⟨ac, cc, hvc, _⟩ := hr.c
  subst hvb hvt hvc
  obtain ⟨R, hR⟩ : ∃ R, R = whereR l id := ⟨_, rfl⟩
  rw [← hR] at hE ⊢
  obtain ⟨ib, hib⟩ : ∃ i, i = bunIx l id := ⟨_, rfl⟩
  have hib' : ixOf (fun b : Bun => b.ids.contains id) l.buns = ib := hib.symm
  rw [hib'] at HB
  rw [← hib] at hE
  have HT := Lib.hid (HT.out ib)
  obtain ⟨it, hit⟩ : ∃ i, i = traIx l ib := ⟨_, rfl⟩
  have hit' : ixOf (fun t : Tra => t.bs.contains ib) l.tras = it := hit.symm
  rw [hit'] at HT
  rw [← hit] at hE
  have HC := Lib.hid (HC.out it)
  obtain ⟨ic, hic⟩ : ∃ i, i = conIx l it := ⟨_, rfl⟩
  have hic' : ixOf (fun t : Con => t.ts.contains it) l.cons = ic := hic.symm
  rw [hic'] at HC
  rw [← hic] at hE
  unfold lodV
  obtain ⟨nb, hnb⟩ : ∃ n, n = l.buns.length := ⟨_, rfl⟩
  obtain ⟨nt, hnt⟩ : ∃ n, n = l.tras.length := ⟨_, rfl⟩
  obtain ⟨nc, hnc⟩ : ∃ n, n = l.cons.length := ⟨_, rfl⟩
  rw [← hnb] at HB ⊢
  rw [← hnt] at HT ⊢
  rw [← hnc] at HC ⊢
  obtain ⟨w2, hw2⟩ : ∃ w2, w2 = (w.alloc (.cells #[.slice ab nb cb, .slice at' nt ct, .slice ac nc cc] 39)).alloc (.cells #[.int .i64 id] 3) := ⟨_, rfl⟩
  obtain ⟨g1, g2, z2, b2⟩ := boxes2 hw2
  obtain ⟨x0, x1, x2⟩ := cells3 g1
  have HW2 := Lib.hid hw2
  have HB2 := Lib.hid b2
  have HL := Lib.hid (fun (W : World) (hB : Below w2.heap.size w2 W) => cells3 ((hB.block _ (by omega)).trans g1))
  have HI := Lib.hid (cell_of_row w2 (w.heap.size + 1) 0 _ _ _ g2)
  have HZ2 : Hid (w.heap.size + 1 < w2.heap.size) := by rw [z2]; exact Nat.lt_succ_self _
  have HE := Lib.hid hE
  clear hR hib hib' hit hit' hic hic' hnb hnt hnc hw2 g1 g2 z2 b2 hE hr hs
  go_enter Tryz.func14, Tryz.ntmps14
  go_upto_region 1 with fail
  rw [← HW2.out]
  by_cases q1 : ib < 0
  · have hRR := HE.out
    rw [if_pos q1] at hRR
    have HRR := Lib.hid hRR
    clear hRR
    go_wp2_with (go_at_call 32; refine (HB.out w2 _ HB2.out HI.out HZ2.out).mono ?_; rintro e w3 ⟨rfl, hb3⟩; have hb4 := (Below.trans HB2.out (hb3.mono HB2.out.size)).alloc (Below.trans HB2.out (hb3.mono HB2.out.size)).size (.cells #[.int .i64 ib] 3); have hb24 := hb3.alloc hb3.size (.cells #[.int .i64 ib] 3); obtain ⟨y0, y1, y2⟩ := HL.out _ hb24; have n4 := cell_of_row _ w3.heap.size 0 _ _ _ (alloc_new w3 (.cells #[.int .i64 ib] 3)))
    (try simp only [Exit.inBlock, Exit.then])
    refine bodyPost_ret (results_tmp4 rfl _ _ _) rfl ?_
    rw [HRR.out]
    exact ⟨rfl, hb4⟩
  · by_cases q2 : it < 0
    · have hRR := HE.out
      rw [if_neg q1, if_pos q2] at hRR
      have HRR := Lib.hid hRR
      clear hRR
      go_wp2_with (first
        | (go_at_call 32; refine (HB.out w2 _ HB2.out HI.out HZ2.out).mono ?_; rintro e w3 ⟨rfl, hb3⟩; have hb4 := (Below.trans HB2.out (hb3.mono HB2.out.size)).alloc (Below.trans HB2.out (hb3.mono HB2.out.size)).size (.cells #[.int .i64 ib] 3); have hb24 := hb3.alloc hb3.size (.cells #[.int .i64 ib] 3); obtain ⟨y0, y1, y2⟩ := HL.out _ hb24; have n4 := cell_of_row _ w3.heap.size 0 _ _ _ (alloc_new w3 (.cells #[.int .i64 ib] 3)))
        | (go_at_call 35; refine (HT.out _ w3.heap.size hb4 n4 (by rw [World.size_alloc]; exact Nat.lt_succ_self _)).mono ?_; rintro e w5 ⟨rfl, hb5⟩; have hb6 := (hb4.trans (hb5.mono hb4.size)).alloc (hb4.trans (hb5.mono hb4.size)).size (.cells #[.int .i64 it] 3); have hb26 := (hb24.trans (hb5.mono hb24.size)).alloc (hb24.trans (hb5.mono hb24.size)).size (.cells #[.int .i64 it] 3); obtain ⟨v0, v1, v2⟩ := HL.out _ hb26; have n6 := cell_of_row _ w5.heap.size 0 _ _ _ (alloc_new w5 (.cells #[.int .i64 it] 3)); have n46 := (((Below.refl _ _).trans hb5).alloc hb5.size (.cells #[.int .i64 it] 3)).cell (p := ⟨w3.heap.size, 0, none⟩) (by rw [World.size_alloc]; exact Nat.lt_succ_self _) |>.trans n4))
      (try simp only [Exit.inBlock, Exit.then])
      refine bodyPost_ret (results_tmp4 rfl _ _ _) rfl ?_
      rw [HRR.out]
      exact ⟨rfl, hb6⟩
    · by_cases q3 : ic < 0
      · have hRR := HE.out
        rw [if_neg q1, if_neg q2, if_pos q3] at hRR
        have HRR := Lib.hid hRR
        clear hRR
        go_wp2_with (first
          | (go_at_call 32; refine (HB.out w2 _ HB2.out HI.out HZ2.out).mono ?_; rintro e w3 ⟨rfl, hb3⟩; have hb4 := (Below.trans HB2.out (hb3.mono HB2.out.size)).alloc (Below.trans HB2.out (hb3.mono HB2.out.size)).size (.cells #[.int .i64 ib] 3); have hb24 := hb3.alloc hb3.size (.cells #[.int .i64 ib] 3); obtain ⟨y0, y1, y2⟩ := HL.out _ hb24; have n4 := cell_of_row _ w3.heap.size 0 _ _ _ (alloc_new w3 (.cells #[.int .i64 ib] 3)))
          | (go_at_call 35; refine (HT.out _ w3.heap.size hb4 n4 (by rw [World.size_alloc]; exact Nat.lt_succ_self _)).mono ?_; rintro e w5 ⟨rfl, hb5⟩; have hb6 := (hb4.trans (hb5.mono hb4.size)).alloc (hb4.trans (hb5.mono hb4.size)).size (.cells #[.int .i64 it] 3); have hb26 := (hb24.trans (hb5.mono hb24.size)).alloc (hb24.trans (hb5.mono hb24.size)).size (.cells #[.int .i64 it] 3); obtain ⟨v0, v1, v2⟩ := HL.out _ hb26; have n6 := cell_of_row _ w5.heap.size 0 _ _ _ (alloc_new w5 (.cells #[.int .i64 it] 3)); have n46 := (((Below.refl _ _).trans hb5).alloc hb5.size (.cells #[.int .i64 it] 3)).cell (p := ⟨w3.heap.size, 0, none⟩) (by rw [World.size_alloc]; exact Nat.lt_succ_self _) |>.trans n4)
          | (go_at_call 37; refine (HC.out _ w5.heap.size hb6 n6 (by rw [World.size_alloc]; exact Nat.lt_succ_self _)).mono ?_; rintro e w7 ⟨rfl, hb7⟩; have k4 := (hb7.cell (p := ⟨w3.heap.size, 0, none⟩) (by rw [World.size_alloc]; have := hb5.size; rw [World.size_alloc] at this; show w3.heap.size < _; omega)).trans n46; have k6 := (hb7.cell (p := ⟨w5.heap.size, 0, none⟩) (by rw [World.size_alloc]; exact Nat.lt_succ_self _)).trans n6))
        (try simp only [Exit.inBlock, Exit.then])
        refine bodyPost_ret (results_tmp4 rfl _ _ _) rfl ?_
        rw [HRR.out]
        exact ⟨rfl, hb6.trans (hb7.mono hb6.size)⟩
      · have hRR := HE.out
        rw [if_neg q1, if_neg q2, if_neg q3] at hRR
        have HRR := Lib.hid hRR
        clear hRR
        go_wp2_with (first
          | (go_at_call 32; refine (HB.out w2 _ HB2.out HI.out HZ2.out).mono ?_; rintro e w3 ⟨rfl, hb3⟩; have hb4 := (Below.trans HB2.out (hb3.mono HB2.out.size)).alloc (Below.trans HB2.out (hb3.mono HB2.out.size)).size (.cells #[.int .i64 ib] 3); have hb24 := hb3.alloc hb3.size (.cells #[.int .i64 ib] 3); obtain ⟨y0, y1, y2⟩ := HL.out _ hb24; have n4 := cell_of_row _ w3.heap.size 0 _ _ _ (alloc_new w3 (.cells #[.int .i64 ib] 3)))
          | (go_at_call 35; refine (HT.out _ w3.heap.size hb4 n4 (by rw [World.size_alloc]; exact Nat.lt_succ_self _)).mono ?_; rintro e w5 ⟨rfl, hb5⟩; have hb6 := (hb4.trans (hb5.mono hb4.size)).alloc (hb4.trans (hb5.mono hb4.size)).size (.cells #[.int .i64 it] 3); have hb26 := (hb24.trans (hb5.mono hb24.size)).alloc (hb24.trans (hb5.mono hb24.size)).size (.cells #[.int .i64 it] 3); obtain ⟨v0, v1, v2⟩ := HL.out _ hb26; have n6 := cell_of_row _ w5.heap.size 0 _ _ _ (alloc_new w5 (.cells #[.int .i64 it] 3)); have n46 := (((Below.refl _ _).trans hb5).alloc hb5.size (.cells #[.int .i64 it] 3)).cell (p := ⟨w3.heap.size, 0, none⟩) (by rw [World.size_alloc]; exact Nat.lt_succ_self _) |>.trans n4)
          | (go_at_call 37; refine (HC.out _ w5.heap.size hb6 n6 (by rw [World.size_alloc]; exact Nat.lt_succ_self _)).mono ?_; rintro e w7 ⟨rfl, hb7⟩; have k4 := (hb7.cell (p := ⟨w3.heap.size, 0, none⟩) (by rw [World.size_alloc]; have := hb5.size; rw [World.size_alloc] at this; show w3.heap.size < _; omega)).trans n46; have k6 := (hb7.cell (p := ⟨w5.heap.size, 0, none⟩) (by rw [World.size_alloc]; exact Nat.lt_succ_self _)).trans n6))
        go_quiet (fail)
        go_wp2_with fail
        (try simp only [Exit.inBlock, Exit.then])
        refine bodyPost_ret (results_tmp4 rfl _ _ _) rfl ?_
        rw [HRR.out]
        exact ⟨rfl, by first | exact below_drewN (hb6.trans (hb7.mono hb6.size)) _ | exact (hb6.trans (hb7.mono hb6.size)).drew⟩
end Go.Proofs.YtelklmdlodgdpaaGreat
