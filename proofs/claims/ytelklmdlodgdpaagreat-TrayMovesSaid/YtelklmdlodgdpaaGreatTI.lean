/-
  tray.Pack where it returns an error.
-/
import Derived.Test.YtelklmdlodgdpaaGreatTG
namespace Go.Proofs.YtelklmdlodgdpaaGreat
open Go.RowKit Go.Sort
set_option linter.unusedVariables false
set_option maxRecDepth 100000
theorem results_cell_two {P : Program} {fn : Func} {p q : Tmp} {ty : TypeId} (h : fn.results = #[.cell p ty, .tmp q]) (tmps : Array Value) (w : World) (g : Nat) (t : TypeId) (cs : Array Value) (fr : Nat × Nat) (d : TypeDesc) (z : Value)
    (hp : tmps.getD p undef = .pointer (some ⟨g, 0, none⟩)) (hq : tmps.getD q undef = z) (hg : w.heap[g]? = some (.cells cs t fr))
    (hu : P.underlying ty = some d) (hd : (match d with | .struct _ | .array _ _ => true | _ => false) = true) (hi : (P.info? ty).map (·.size) = some cs.size) :
    (results fn tmps).run P w = .ok (.tuple #[.agg cs, z]) w := by
  have hp' : tmps[p]?.getD undef = .pointer (some ⟨g, 0, none⟩) := by simpa using hp
  have hq' : tmps[q]?.getD undef = z := by simpa using hq
  simp [results, h, hp', hq', asAddr, run_loadVar_row w g t ty cs fr d hg hu hd hi]
theorem set3all {w : World} {g : Nat} {a b c a' b' c' : Value} {t : TypeId} {fr : Nat × Nat} (h : w.heap[g]? = some (.cells #[a, b, c] t fr)) :
    (((w.setCell ⟨g, 0, none⟩ a').setCell ⟨g, 1, none⟩ b').setCell ⟨g, 2, none⟩ c').heap[g]? = some (.cells #[a', b', c'] t fr) := (set3 (set3 (set3 h).1).2.1).2.2
def lodV (vb vt vc : Value) : Value := .agg #[vb, vt, vc]
def noLod : Value := .agg #[.slice none 0 0, .slice none 0 0, .slice none 0 0]
set_option maxHeartbeats 16000000 in
theorem pack_no (ls : List Lev) (v vp vz : Value) (m : Mai) (zs : List Int) (k : Pck) (w : World) (hr : RdLevs w v ls) (hf : ∀ l ∈ ls, LevFits l) (hl : ls.length ≤ 100000) (hrp : RdPces w vp m.ps) (h8 : 0 ≤ m.cls ∧ m.cls ≤ 255 ∧ 0 ≤ m.ctr ∧ m.ctr ≤ 255)
    (hom : m.origin.size ≤ maxLen) (hml : m.ps.length ≤ 100000) (hcz : ∀ p ∈ m.ps, p.code.size ≤ maxLen) (hz : RdInts w vz zs) (hlz : zs.length ≤ 1000000) (hne : allR ls m zs k ≠ 0) :
    Calls Tryz.prog 11 #[v, maiV m vp, vz, pckV k] w fun e w' => e = .returned (.tuple #[noLod, .int .i64 (allR ls m zs k)]) ∧ Below w.heap.size w w' := by
  have HAL := Lib.hid (fun W (hW : Below w.heap.size w W) => allowed_any ls v vp vz m zs k W (hr.below hW) hf hl (hrp.below hW) h8 hom hml hcz (hz.below hW) hlz)
  obtain ⟨A, hAA⟩ : ∃ A, A = allR ls m zs k := ⟨_, rfl⟩
  rw [← hAA] at HAL hne ⊢
  unfold maiV pckV noLod at *
  obtain ⟨kp, kg, kb, kt⟩ := k
  obtain ⟨cls, ctr, org, ps⟩ := m
  dsimp only at *
  obtain ⟨w3, hw3⟩ : ∃ w3, w3 = ((w.alloc (.cells #[.int .u8 cls, .int .u8 ctr, .string org, vp] 29)).alloc (.cells #[.int .i64 kp, .int .i64 kg, .int .i64 kb, .int .i64 kt] 32)).alloc (.cells #[.slice none 0 0, .slice none 0 0, .slice none 0 0] 39) := ⟨_, rfl⟩
  obtain ⟨g1, g2, g3⟩ := boxes3 hw3
  have hz3 : w3.heap.size = w.heap.size + 1 + 1 + 1 := by rw [hw3, World.size_alloc, World.size_alloc, World.size_alloc]
  have hb3 : Below w.heap.size w w3 := by
    rw [hw3]
    exact (((Below.refl _ w).alloc (Nat.le_refl _) _).alloc (by simp) _).alloc (by simp; omega) _
  obtain ⟨x0, x1, x2, x3⟩ := cells4 g1
  obtain ⟨y0, y1, y2, y3⟩ := cells4 g2
  have HL8 := Lib.hid (fun (W : World) (hB : Below w3.heap.size w3 W) => (hB.block _ (by omega)).trans g3)
  have HFR := Lib.hid (fun (W : World) (hB : Below w3.heap.size w3 W) => (fun j => row_free (i := j) ((hB.block _ (by omega)).trans g3) : ∀ j, W.frozen? ⟨w.heap.size + 1 + 1, j, none⟩ = false))
  have HW3 := Lib.hid hw3
  have HB3 := Lib.hid hb3
  have HNE := Lib.hid hne
  have hq : (A != 0) = true := by simp [hne]
  clear hw3 hb3 hz3 g1 g2 g3 hAA hr hf hcz hz hrp hne
  go_enter Tryz.func11, Tryz.ntmps11
  go_upto_region 1 with fail
  rw [← HW3.out]
  go_wp2_with (go_at_call 22; refine (HAL.out _ HB3.out).mono ?_; rintro e w4 ⟨rfl, hb4⟩; obtain ⟨c0, c1, c2⟩ := cells3 (HL8.out w4 hb4); have z0 := HFR.out w4 hb4 0; have z1 := HFR.out w4 hb4 1; have z2 := HFR.out w4 hb4 2)
  refine bodyPost_ret (results_cell_two rfl _ _ (w.heap.size + 1 + 1) 39 _ (0, 0) _ (.int .i64 A) rfl rfl (set3all (HL8.out w4 hb4)) Tryz.underlying39 rfl (by kernel_rfl)) rfl ?_
  have hw5 := below_c HB3.out HB3.out.size hb4
  exact ⟨rfl, ((hw5.setCell (p := ⟨w.heap.size + 1 + 1, 0, none⟩) (Nat.le_add_right _ 2) _).setCell (p := ⟨w.heap.size + 1 + 1, 1, none⟩) (Nat.le_add_right _ 2) _).setCell (p := ⟨w.heap.size + 1 + 1, 2, none⟩) (Nat.le_add_right _ 2) _⟩
set_option maxHeartbeats 16000000 in
theorem pack_long (ls : List Lev) (v vp vz : Value) (m : Mai) (zs : List Int) (k : Pck) (w : World) (hr : RdLevs w v ls) (hf : ∀ l ∈ ls, LevFits l) (hl : ls.length ≤ 100000) (hrp : RdPces w vp m.ps) (h8 : 0 ≤ m.cls ∧ m.cls ≤ 255 ∧ 0 ≤ m.ctr ∧ m.ctr ≤ 255)
    (hom : m.origin.size ≤ maxLen) (hml : m.ps.length ≤ 100000) (hcz : ∀ p ∈ m.ps, p.code.size ≤ maxLen) (hz : RdInts w vz zs) (hlz : zs.length ≤ 1000000) (hA : allR ls m zs k = 0) (hv : ∃ p ∈ m.ps, k.grams < p.grams) :
    Calls Tryz.prog 11 #[v, maiV m vp, vz, pckV k] w fun e w' => e = .returned (.tuple #[noLod, .int .i64 3]) ∧ Below w.heap.size w w' := by
  have HAL := Lib.hid (fun W (hW : Below w.heap.size w W) => allowed_any ls v vp vz m zs k W (hr.below hW) hf hl (hrp.below hW) h8 hom hml hcz (hz.below hW) hlz)
  rw [hA] at HAL
  have HRP := Lib.hid hrp
  obtain ⟨av, cv, rfl, hpc⟩ := hrp
  have HPC := Lib.hid hpc
  unfold maiV pckV noLod at *
  obtain ⟨kp, kg, kb, kt⟩ := k
  obtain ⟨cls, ctr, org, ps⟩ := m
  dsimp only at *
  obtain ⟨w3, hw3⟩ : ∃ w3, w3 = ((w.alloc (.cells #[.int .u8 cls, .int .u8 ctr, .string org, .slice av ps.length cv] 29)).alloc (.cells #[.int .i64 kp, .int .i64 kg, .int .i64 kb, .int .i64 kt] 32)).alloc (.cells #[.slice none 0 0, .slice none 0 0, .slice none 0 0] 39) := ⟨_, rfl⟩
  obtain ⟨g1, g2, g3⟩ := boxes3 hw3
  have hz3 : w3.heap.size = w.heap.size + 1 + 1 + 1 := by rw [hw3, World.size_alloc, World.size_alloc, World.size_alloc]
  have hb3 : Below w.heap.size w w3 := by
    rw [hw3]
    exact (((Below.refl _ w).alloc (Nat.le_refl _) _).alloc (by simp) _).alloc (by simp; omega) _
  obtain ⟨x0, x1, x2, x3⟩ := cells4 g1
  obtain ⟨y0, y1, y2, y3⟩ := cells4 g2
  have HS3 := Lib.hid (show w.heap.size < w3.heap.size ∧ w.heap.size + 1 < w3.heap.size by omega)
  have HL8 := Lib.hid (fun (W : World) (hB : Below w3.heap.size w3 W) => (hB.block _ (by omega)).trans g3)
  have HFR := Lib.hid (fun (W : World) (hB : Below w3.heap.size w3 W) => (fun j => row_free (i := j) ((hB.block _ (by omega)).trans g3) : ∀ j, W.frozen? ⟨w.heap.size + 1 + 1, j, none⟩ = false))
  have HW3 := Lib.hid hw3
  have HB3 := Lib.hid hb3
  have HV := Lib.hid hv
  clear hw3 hb3 hz3 g1 g2 g3 hA hr hf hcz hz hpc hv
  go_enter Tryz.func11, Tryz.ntmps11
  go_upto_region 1 with fail
  rw [← HW3.out]
  have HB1 := Lib.hid (fun (W : World) (hB : Below w3.heap.size w3 W) => (⟨(hB.cell (p := ⟨w.heap.size, 3, none⟩) HS3.out.1).trans x3, (hB.cell (p := ⟨w.heap.size + 1, 1, none⟩) HS3.out.2).trans y1⟩ : W.cell? ⟨w.heap.size, 3, none⟩ = some (.slice av ps.length cv) ∧ W.cell? ⟨w.heap.size + 1, 1, none⟩ = some (.int .i64 kg)))
  go_wp2_with (go_at_call 22; refine (HAL.out _ HB3.out).mono ?_; rintro e w4 ⟨rfl, hb4⟩; obtain ⟨f3, f1⟩ := HB1.out w4 hb4)
  go_loopw [37] (fun i wx => ∃ j : Nat, j ≤ ps.length ∧ i = .int .i64 j ∧ Below w3.heap.size w3 wx ∧ ∀ q (h : q < ps.length), q < j → ps[q].grams ≤ kg) (fun i _ => ps.length - (intOf i).toNat)
  case atStart => exact ⟨0, Nat.zero_le _, rfl, hb4, fun q _ h => absurd h (Nat.not_lt_zero _)⟩
  case round =>
    clear f3 f1 hb4 x0 x1 x2 x3 y0 y1 y2 y3
    obtain ⟨j, hj, rfl, hB, hno⟩ := hrel
    have HNO := Lib.hid hno
    have HBB := Lib.hid hB
    clear hno
    by_cases hlt : j < ps.length
    · obtain ⟨g, off, rfl, hg, hat⟩ := HPC.out (by omega)
      have hp := ((hat j hlt).below HB3.out hg).below hB (Nat.lt_of_lt_of_le hg HB3.out.size)
      obtain ⟨p, hpe⟩ : ∃ p, p = ps[j] := ⟨_, rfl⟩
      have HPE := Lib.hid hpe
      rw [← hpe] at hp
      obtain ⟨id, pt, cd, gr, br⟩ := p
      obtain ⟨p0, p1, p2, p3, p4⟩ := hp
      dsimp only at p0 p1 p2 p3 p4
      obtain ⟨f3, f1⟩ := HB1.out (wr.alloc (.cells #[.int .i64 id, .int .i64 pt, .string cd, .int .i64 gr, .bool br] 45)) (hB.alloc hB.size _)
      clear hpe hat hB
      by_cases hgt : gr > kg
      · obtain ⟨c0, c1, c2⟩ := cells3 (HL8.out (wr.alloc (.cells #[.int .i64 id, .int .i64 pt, .string cd, .int .i64 gr, .bool br] 45)) (HBB.out.alloc HBB.out.size _))
        have z := HFR.out (wr.alloc (.cells #[.int .i64 id, .int .i64 pt, .string cd, .int .i64 gr, .bool br] 45)) (HBB.out.alloc HBB.out.size _)
        have z0 := z 0
        have z1 := z 1
        have z2 := z 2
        clear z
        go_wp2_with fail
        refine bodyPost_ret (results_cell_two rfl _ _ (w.heap.size + 1 + 1) 39 _ (0, 0) _ (.int .i64 3) rfl rfl (set3all (HL8.out _ (HBB.out.alloc HBB.out.size _))) Tryz.underlying39 rfl (by kernel_rfl)) rfl ?_
        have hw5 := below_c HB3.out HB3.out.size (HBB.out.alloc HBB.out.size (.cells #[.int .i64 id, .int .i64 pt, .string cd, .int .i64 gr, .bool br] 45))
        exact ⟨rfl, ((hw5.setCell (p := ⟨w.heap.size + 1 + 1, 0, none⟩) (Nat.le_add_right _ 2) _).setCell (p := ⟨w.heap.size + 1 + 1, 1, none⟩) (Nat.le_add_right _ 2) _).setCell (p := ⟨w.heap.size + 1 + 1, 2, none⟩) (Nat.le_add_right _ 2) _⟩
      · go_wp2_with fail
        go_roundw
        case rel =>
          refine ⟨j + 1, by omega, by go_num, HBB.out.alloc HBB.out.size _, fun q hq hqj => ?_⟩
          by_cases e : q = j
          · subst e
            rw [← HPE.out]
            show gr ≤ kg
            omega
          · exact HNO.out q hq (by omega)
        case measure => simp [intOf]; omega
    · obtain ⟨p, hp, hpg⟩ := HV.out
      obtain ⟨q, hq, hqe⟩ := List.mem_iff_getElem.1 hp
      have := HNO.out q hq (by omega)
      rw [hqe] at this
      omega
end Go.Proofs.YtelklmdlodgdpaaGreat
