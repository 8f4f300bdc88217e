/-
  tray.allowed, tray.groupsOf.
-/
import Derived.Test.YtelklmdlodgdpaaGreatTD
import Derived.Test.YtelklmdlodgdpaaGreatGX
namespace Go.Proofs.YtelklmdlodgdpaaGreat
open Go.RowKit Go.Sort
set_option linter.unusedVariables false
set_option maxRecDepth 100000
theorem HasPlan.groups_few {ls : List Lev} {m : Mai} (h : HasPlan ls m) : (gAll ls (codesM m.ps) ls.length).length ≤ 12000 := by
  have h1 := gTo_bound2 ls (codesM m.ps)
  have h2 := (right_len h.right).2
  have h3 := h.few
  rw [codesM_len] at h1
  have : ls.length * m.ps.length ≤ 6 * 2000 := Nat.mul_le_mul h2 h3
  omega
theorem groups_of {ls : List Lev} {m : Mai} (h : HasPlan ls m) {v vc : Value} {w : World} (hr : RdLevs w v ls) (hrc : ReadsT w vc (codesM m.ps)) :
    Calls Tryz.prog 49 #[v, vc] w fun e w' => ∃ a cap, e = .returned (.tuple #[.slice a (gAll ls (codesM m.ps) ls.length).length cap, .int .i64 0]) ∧ Below w.heap.size w w' ∧ RdGrps w' (.slice a (gAll ls (codesM m.ps) ls.length).length cap) (gAll ls (codesM m.ps) ls.length) := by
  have hl := right_len h.right
  have hf := h.few
  have h1 := groups_any ls v vc (codesM m.ps) w hr (right_fits h.right) (by unfold maxLen; omega) hrc (by rw [codesM_len]; unfold maxLen; omega) (fun c hc => by have := codeB_size (h.code c hc); unfold maxLen; omega)
  rw [groupsR_ok h.right (by rw [codesM_len]; exact hf) h.code (noShort_any h.pre), gTo_closed ls _ ls.length (Nat.le_refl _)] at h1
  refine h1.mono ?_
  rintro e w' ⟨vg, rfl, hb, hog⟩
  have hrg := RdGrps.of_owns hog
  obtain ⟨ag, cg, hvg⟩ := hog.len
  subst hvg
  exact ⟨ag, cg, rfl, hb, hrg⟩
set_option maxHeartbeats 8000000 in
theorem groupsOf_ok {ls : List Lev} {m : Mai} (h : HasPlan ls m) {vl v : Value} {w : World} (hrl : RdLevs w vl ls) (hr : RdPces w v m.ps) :
    Calls Tryz.prog 23 #[vl, maiV m v] w fun e w' => ∃ a cap, e = .returned (.tuple #[.slice a (gAll ls (codesM m.ps) ls.length).length cap, .int .i64 0]) ∧ Below w.heap.size w w' ∧ RdGrps w' (.slice a (gAll ls (codesM m.ps) ls.length).length cap) (gAll ls (codesM m.ps) ls.length) := by
  have hl : m.ps.length ≤ 2000 := h.few
  have HGO := Lib.hid (fun W vc (hW : Below w.heap.size w W) (hrc : ReadsT W vc (codesM m.ps)) => groups_of h (hrl.below hW) hrc)
  obtain ⟨N, hN⟩ : ∃ N, N = (gAll ls (codesM m.ps) ls.length).length := ⟨_, rfl⟩
  rw [← hN] at HGO ⊢
  clear hN h hrl
  obtain ⟨a, cap, rfl, hcc⟩ := hr
  unfold maiV
  obtain ⟨cls, ctr, org, ps⟩ := m
  dsimp only at *
  obtain ⟨i0, hi⟩ := info_parts Tryz.infoTx
  have HI := Lib.hid hi
  have HCC := Lib.hid hcc
  clear hi hcc
  have c0 : (w.alloc (.cells #[.int .u8 cls, .int .u8 ctr, .string org, .slice a ps.length cap] 29)).cell? ⟨w.heap.size, 3, none⟩ = some (.slice a ps.length cap) := cell_of_row _ _ 3 _ _ _ (alloc_new w _)
  go_enter Tryz.func23, Tryz.ntmps23
  go_wp2_with (at_make; refine wpList_make_own _ rfl _ _ 88 rfl (w.heap.size + 1) 9 i0 (.string ⟨#[]⟩) 1 Tryz.underlying88 HI.out.1 HI.out.2.1 HI.out.2.2.1 _ _ _ ps.length rfl (by first | rfl | simp) rfl (by rw [HI.out.2.2.2]; omega) (by unfold maxLen; omega) (by simp) ?_; intro w1 hown hgrow; have hb1 : Below (w.alloc (.cells #[.int .u8 cls, .int .u8 ctr, .string org, .slice a ps.length cap] 29)).heap.size (w.alloc (.cells #[.int .u8 cls, .int .u8 ctr, .string org, .slice a ps.length cap] 29)) w1 := (Below.refl _ _).grown hgrow (Nat.le_refl _) (fun _ e => by cases e); clear hgrow; have c1 := (hb1.cell (p := ⟨w.heap.size, 3, none⟩) (by simp)).trans c0)
  have hB : Below w.heap.size w w1 := below_ac (Below.refl _ w) (Nat.le_refl _) hb1
  have hz1 := hb1.size
  simp only [World.size_alloc] at hz1
  clear c1 c0 hb1
  go_loopw [6, 16] (fun l i wr => ∃ k : Nat, k ≤ ps.length ∧ i = .int .i64 k ∧ Below w.heap.size w wr ∧ w.heap.size + 1 ≤ wr.heap.size ∧ wr.ownsRow (w.heap.size + 1) 9 1 l k ((codesM (ps.take k)).map Value.string)) (fun _ i _ => ps.length - (intOf i).toNat)
  case atStart => exact ⟨0, Nat.zero_le _, rfl, hB, by omega, by simpa [codesM] using hown⟩
  case round =>
    clear hB hown
    obtain ⟨k, hk, rfl, hB, hz, hO⟩ := hrel
    by_cases hlt : k < ps.length
    · obtain ⟨g, off, rfl, hg, hat⟩ := HCC.out (by omega)
      have hp := (hat k hlt).below hB hg
      have htk := codesM_take ps hlt
      obtain ⟨p, hpe⟩ : ∃ p, p = ps[k] := ⟨_, rfl⟩
      rw [← hpe] at hp htk
      have HTK := Lib.hid htk
      obtain ⟨id, pt, cd, gr, br⟩ := p
      obtain ⟨p0, p1, p2, p3, p4⟩ := hp
      dsimp only at p0 p1 p2 p3 p4
      clear hat htk hpe
      have hO1 := (hO.alloc (.cells #[.int .i64 id, .int .i64 pt, .string cd, .int .i64 gr, .bool br] 45)).alloc (.cells #[.string cd] 9)
      have HO1 := Lib.hid hO1
      clear hO1
      rcases Joins.ownsRow_forms hO with ⟨rfl, hpn⟩ | ⟨g2, cap2, rfl⟩
      · have HP := Lib.hid hpn
        clear hpn
        go_wp2_with (at_builtin; refine wpList_append_own _ rfl _ _ 88 rfl (w.heap.size + 1) 9 i0 (.string ⟨#[]⟩) 1 16 Tryz.underlying88 HI.out.1 HI.out.2.1 HI.out.2.2.1 HI.out.2.2.2 rfl (by decide) _ _ _ rfl HO1.out ⟨wr.heap.size + 1, 0, none⟩ 1 1 [.string cd] rfl (by simp) (by simpa using cell_one_new (wr.alloc (.cells #[.int .i64 id, .int .i64 pt, .string cd, .int .i64 gr, .bool br] 45)) (.string cd) 9) (by simp [Value.oneCell']) (by unfold maxLen; omega) (by omega) (by simp; omega) ?_; intro v' w5 hown' hgrow _)
        go_roundw
        case rel =>
          refine ⟨k + 1, by omega, by go_num, ?_, ?_, ?_⟩
          · exact ((hB.alloc hB.size _).alloc (by have := hB.size; simp; omega) _).grown hgrow (by have := hB.size; simp; omega) (fun r e => by have := (hO.lt r e).1; omega)
          · have := hgrow.size; simp at this; omega
          · rw [HTK.out]
            exact hown'
        case measure => simp [intOf]; omega
      · go_wp2_with (at_builtin; refine wpList_append_own _ rfl _ _ 88 rfl (w.heap.size + 1) 9 i0 (.string ⟨#[]⟩) 1 16 Tryz.underlying88 HI.out.1 HI.out.2.1 HI.out.2.2.1 HI.out.2.2.2 rfl (by decide) _ _ _ rfl HO1.out ⟨wr.heap.size + 1, 0, none⟩ 1 1 [.string cd] rfl (by simp) (by simpa using cell_one_new (wr.alloc (.cells #[.int .i64 id, .int .i64 pt, .string cd, .int .i64 gr, .bool br] 45)) (.string cd) 9) (by simp [Value.oneCell']) (by unfold maxLen; omega) (by omega) (by simp; omega) ?_; intro v' w5 hown' hgrow _)
        go_roundw
        case rel =>
          refine ⟨k + 1, by omega, by go_num, ?_, ?_, ?_⟩
          · exact ((hB.alloc hB.size _).alloc (by have := hB.size; simp; omega) _).grown hgrow (by have := hB.size; simp; omega) (fun r e => by have := (hO.lt r e).1; omega)
          · have := hgrow.size; simp at this; omega
          · rw [HTK.out]
            exact hown'
        case measure => simp [intOf]; omega
    · obtain rfl : k = ps.length := by omega
      rw [List.take_length] at hO
      have HO := Lib.hid hO
      have hlen : (codesM ps).length = ps.length := by unfold codesM; simp
      rcases Joins.ownsRow_forms hO with ⟨rfl, hp⟩ | ⟨g2, cap2, rfl⟩
      · have hrt : ReadsT wr (.slice none 0 0) (codesM ps) := ⟨none, 0, by rw [hlen, hp], fun h0 => by rw [hlen] at h0; omega⟩
        have HRT := Lib.hid hrt
        have HP := Lib.hid hp
        clear hrt hlen hO hp
        go_wp2_with (go_at_call 49; refine (HGO.out _ _ hB HRT.out).mono ?_; rintro e w6 ⟨a6, c6, rfl, hb6, hg6⟩)
        go_ret2
        exact ⟨_, _, rfl, below_c hB hB.size hb6, hg6⟩
      · have hrt : ReadsT wr (.slice (some ⟨g2, 0, none⟩) ps.length cap2) (codesM ps) := ReadsT.of_row (base := w.heap.size + 1) (by unfold OwnsT; rw [hlen]; exact HO.out)
        have HRT := Lib.hid hrt
        clear hrt hlen hO
        go_wp2_with (go_at_call 49; refine (HGO.out _ _ hB HRT.out).mono ?_; rintro e w6 ⟨a6, c6, rfl, hb6, hg6⟩)
        go_ret2
        exact ⟨_, _, rfl, below_c hB hB.size hb6, hg6⟩
/-- What tray.allowed answers. -/
noncomputable def allR (ls : List Lev) (m : Mai) (zs : List Int) (k : Pck) : Int := if (validR ls m zs).2 = 0 then (if (validR ls m zs).1 = true ∧ pckB k = true then 0 else 2) else (validR ls m zs).2
theorem boxes2 {w w2 : World} {c1 c2 : Array Value} {t1 t2 : TypeId} (h : w2 = (w.alloc (.cells c1 t1)).alloc (.cells c2 t2)) :
    w2.heap[w.heap.size]? = some (.cells c1 t1 (0, 0)) ∧ w2.heap[w.heap.size + 1]? = some (.cells c2 t2 (0, 0)) ∧ w2.heap.size = w.heap.size + 1 + 1 ∧ Below w.heap.size w w2 := by
  rw [h]
  obtain ⟨a, ha⟩ : ∃ a, a = w.alloc (.cells c1 t1) := ⟨_, rfl⟩
  have za : a.heap.size = w.heap.size + 1 := by rw [ha, World.size_alloc]
  have na : a.heap[w.heap.size]? = some (.cells c1 t1 (0, 0)) := by rw [ha]; exact alloc_new w _
  have nb : (a.alloc (.cells c2 t2)).heap[w.heap.size + 1]? = some (.cells c2 t2 (0, 0)) := by rw [← za]; exact alloc_new a _
  have ba : Below w.heap.size w a := by rw [ha]; exact (Below.refl _ w).alloc (Nat.le_refl _) _
  rw [← ha]
  exact ⟨(Below.heap_alloc _ _ _ (by omega)).trans na, nb, by rw [World.size_alloc, za], ba.alloc (by omega) _⟩
set_option maxHeartbeats 16000000 in
theorem allowed_any (ls : List Lev) (v vp vz : Value) (m : Mai) (zs : List Int) (k : Pck) (w : World) (hr : RdLevs w v ls) (hf : ∀ l ∈ ls, LevFits l) (hl : ls.length ≤ 100000) (hrp : RdPces w vp m.ps) (h8 : 0 ≤ m.cls ∧ m.cls ≤ 255 ∧ 0 ≤ m.ctr ∧ m.ctr ≤ 255)
    (hom : m.origin.size ≤ maxLen) (hml : m.ps.length ≤ 100000) (hcz : ∀ p ∈ m.ps, p.code.size ≤ maxLen) (hz : RdInts w vz zs) (hlz : zs.length ≤ 1000000) :
    Calls Tryz.prog 22 #[v, maiV m vp, vz, pckV k] w fun e w' => e = .returned (.int .i64 (allR ls m zs k)) ∧ Below w.heap.size w w' := by
  have HVA := Lib.hid (fun W (hW : Below w.heap.size w W) => valid_any ls v vp vz m zs W (hr.below hW) hf hl (hrp.below hW) h8 hom hml hcz (hz.below hW) hlz)
  have HRT := Lib.hid (fun W => tRight_any k W)
  obtain ⟨ap, cp, rfl, _⟩ := hrp
  have hA : allR ls m zs k = if (validR ls m zs).2 = 0 then (if (validR ls m zs).1 = true ∧ pckB k = true then 0 else 2) else (validR ls m zs).2 := by unfold allR; rfl
  obtain ⟨R, hR⟩ : ∃ R, R = validR ls m zs := ⟨_, rfl⟩
  rw [← hR] at HVA hA
  obtain ⟨vb, ve⟩ := R
  obtain ⟨A, hAA⟩ : ∃ A, A = allR ls m zs k := ⟨_, rfl⟩
  obtain ⟨pb, hpb⟩ : ∃ b, b = pckB k := ⟨_, rfl⟩
  rw [← hpb] at HRT hA
  rw [← hAA] at hA ⊢
  dsimp only at HVA hA
  unfold maiV pckV at *
  obtain ⟨kp, kg, kb, kt⟩ := k
  obtain ⟨cls, ctr, org, ps⟩ := m
  dsimp only at *
  obtain ⟨w2, hw2⟩ : ∃ w2, w2 = (w.alloc (.cells #[.int .u8 cls, .int .u8 ctr, .string org, .slice ap ps.length cp] 29)).alloc (.cells #[.int .i64 kp, .int .i64 kg, .int .i64 kb, .int .i64 kt] 32) := ⟨_, rfl⟩
  obtain ⟨g1, g2, z2, b2⟩ := boxes2 hw2
  obtain ⟨x0, x1, x2, x3⟩ := cells4 g1
  have HKB := Lib.hid (fun (W : World) (hB : Below w2.heap.size w2 W) => cells4 ((hB.block _ (by omega)).trans g2))
  have HW2 := Lib.hid hw2
  have HB2 := Lib.hid b2
  have HAH := Lib.hid hA
  clear hw2 b2 z2 g1 g2 hA hAA hpb hR hr hf hcz hz
  by_cases he : ve = 0
  · subst he
    cases vb
    · have HA2 : Hid (A = 2) := Lib.hid (by have h := HAH.out; simpa using h)
      go_enter Tryz.func22, Tryz.ntmps22
      go_upto_region 1 with fail
      rw [← HW2.out]
      go_wp2_with (go_at_call 54; refine (HVA.out _ HB2.out).mono ?_; rintro e w3 ⟨rfl, hb3⟩)
      go_ret
      rw [HA2.out]
      exact ⟨rfl, below_c HB2.out HB2.out.size hb3⟩
    · cases pb
      · have HA2 : Hid (A = 2) := Lib.hid (by have h := HAH.out; simpa using h)
        go_enter Tryz.func22, Tryz.ntmps22
        go_upto_region 1 with fail
        rw [← HW2.out]
        go_wp2_with (first | (go_at_call 54; refine (HVA.out _ HB2.out).mono ?_; rintro e w3 ⟨rfl, hb3⟩; obtain ⟨y0, y1, y2, y3⟩ := HKB.out w3 hb3) | (go_at_call 15; refine (HRT.out w3).mono ?_; rintro e w4 ⟨rfl, hb4⟩))
        go_ret
        rw [HA2.out]
        exact ⟨rfl, below_c (below_c HB2.out HB2.out.size hb3) (below_c HB2.out HB2.out.size hb3).size hb4⟩
      · have HA2 : Hid (A = 0) := Lib.hid (by have h := HAH.out; simpa using h)
        go_enter Tryz.func22, Tryz.ntmps22
        go_upto_region 1 with fail
        rw [← HW2.out]
        go_wp2_with (first | (go_at_call 54; refine (HVA.out _ HB2.out).mono ?_; rintro e w3 ⟨rfl, hb3⟩; obtain ⟨y0, y1, y2, y3⟩ := HKB.out w3 hb3) | (go_at_call 15; refine (HRT.out w3).mono ?_; rintro e w4 ⟨rfl, hb4⟩))
        go_ret
        rw [HA2.out]
        exact ⟨rfl, below_c (below_c HB2.out HB2.out.size hb3) (below_c HB2.out HB2.out.size hb3).size hb4⟩
  · have hne : (ve != 0) = true := by simp [he]
    rw [if_neg he] at HAH
    go_enter Tryz.func22, Tryz.ntmps22
    go_upto_region 1 with fail
    rw [← HW2.out]
    go_wp2_with (go_at_call 54; refine (HVA.out _ HB2.out).mono ?_; rintro e w3 ⟨rfl, hb3⟩)
    go_ret
    rw [HAH.out]
    exact ⟨rfl, below_c HB2.out HB2.out.size hb3⟩
end Go.Proofs.YtelklmdlodgdpaaGreat
