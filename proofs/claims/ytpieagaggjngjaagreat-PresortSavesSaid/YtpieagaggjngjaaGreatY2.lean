/-
  letterbagref25.Saving, letterbaglaw25.few.
-/
import Derived.Test.YtpieagaggjngjaaGreatGU
import Derived.Test.YtpieagaggjngjaaGreatGE
namespace Go.Proofs.YtpieagaggjngjaaGreat
open Go.RowKit Go.Sort
set_option linter.unusedVariables false
set_option maxRecDepth 100000
theorem saves_take (ls : List Lev) (zs : List Int) (k : Nat) : savesTo ls (zs.take k) k = savesTo ls zs k := by
  unfold savesTo
  rw [List.take_take, Nat.min_self]
set_option maxHeartbeats 8000000 in
theorem rSaving_any (ls : List Lev) (v vz : Value) (zs : List Int) (w : World) (hr : RdLevs w v ls) (hf : ∀ l ∈ ls, LevFits l) (hl : ls.length ≤ 100000) (hz : RdInts w vz zs) (hlz : zs.length ≤ 1000000) :
    Calls Tryz.prog 16 #[v, vz] w fun e w' => e = .returned (.tuple #[.int .i64 (savingR ls zs).1, .int .i64 (savingR ls zs).2]) ∧ Below w.heap.size w w' := by
  have HRT := Lib.hid (rRight_any ls v w hr hf (by unfold maxLen; omega))
  have HRL := Lib.hid hr
  have HZ := Lib.hid hz
  obtain ⟨a, ca, rfl, _⟩ := hr
  obtain ⟨az, cz, rfl, _⟩ := hz
  have hVR : savingR ls zs = if 2000 < zs.length then (0, 5) else if rightB ls = true ∧ numsB ls.length zs = true then (savesTo ls zs zs.length, 0) else (0, 2) := by unfold savingR; rfl
  obtain ⟨R, hR⟩ : ∃ R, R = savingR ls zs := ⟨_, rfl⟩
  rw [← hR] at hVR ⊢
  have HVR := Lib.hid hVR
  clear hR hVR hf
  by_cases h2 : 2000 < zs.length
  · have hgt : (zs.length : Int) > 2000 := by omega
    go_enter Tryz.func16, Tryz.ntmps16
    go_wp2_with fail
    go_ret2
    rw [HVR.out, if_pos h2]
    exact ⟨rfl, Below.refl _ _⟩
  · have hgt : ¬ (zs.length : Int) > 2000 := by omega
    have HH2 := Lib.hid h2
    clear h2
    cases hri : rightB ls
    · rw [hri] at HRT
      have HRI := Lib.hid hri
      clear hri
      go_enter Tryz.func16, Tryz.ntmps16
      go_wp2_with (go_at_call 30; refine HRT.out.mono ?_; rintro e w1 ⟨rfl, hb1⟩)
      go_ret2
      rw [HVR.out, if_neg HH2.out, if_neg (by rw [HRI.out]; simp)]
      exact ⟨rfl, hb1⟩
    · rw [hri] at HRT
      have HRI := Lib.hid hri
      have HCB := Lib.hid (fun (z : Int) (h0 : 0 ≤ z) (h1 : z < (ls.length : Int)) => cents_bound hri h0 h1)
      have HSB := Lib.hid (fun k (hk : k ≤ zs.length) (hn : numsB ls.length (zs.take k) = true) => saves_bound hri hn k (by rw [List.length_take]; omega))
      clear hri
      go_enter Tryz.func16, Tryz.ntmps16
      go_wp2_with (go_at_call 30; refine HRT.out.mono ?_; rintro e w1 ⟨rfl, hb1⟩)
      go_loopw [6, 7] (fun s i wr => ∃ k : Nat, k ≤ zs.length ∧ i = .int .i64 k ∧ s = .int .i64 (savesTo ls zs k) ∧ numsB ls.length (zs.take k) = true ∧ Below w.heap.size w wr) (fun _ i _ => zs.length - (intOf i).toNat)
      case atStart => exact ⟨0, Nat.zero_le _, rfl, by simp [savesTo], by simp [numsB], hb1⟩
      case round =>
        clear hb1
        obtain ⟨k, hk, rfl, rfl, hn, hB⟩ := hrel
        by_cases hlt : k < zs.length
        · obtain ⟨az', cz', hvz, hcz⟩ := HZ.out
          injection hvz with q1 q2 q3
          subst q1
          clear q2 q3
          obtain ⟨gz, oz, rfl, hgz, hcz⟩ := hcz (by omega)
          have e1 : wr.cell? ⟨gz, oz + k, none⟩ = some (.int .i64 zs[k]) := (hB.cell (p := ⟨gz, oz + k, none⟩) hgz).trans (hcz k hlt)
          have hss := savesTo_succ ls zs k hlt
          have hsb := HSB.out k hk hn
          rw [saves_take] at hsb
          have hbad : zs[k] < 0 ∨ (ls.length : Int) ≤ zs[k] → R = (0, 2) := fun hb => by
            rw [HVR.out, if_neg HH2.out, if_neg (fun ⟨_, b⟩ => by rw [nums_false hlt hb] at b; cases b)]
          have hnn : 0 ≤ zs[k] → zs[k] < (ls.length : Int) → numsB ls.length (zs.take (k + 1)) = true := fun h0 h1 => nums_true (fun i hi => by
            rw [List.getElem_take]
            by_cases e : i = k
            · subst e; exact ⟨h0, h1⟩
            · have := nums_at hn i (by rw [List.length_take] at hi ⊢; omega)
              rwa [List.getElem_take] at this)
          obtain ⟨z, hz⟩ : ∃ z, z = zs[k] := ⟨_, rfl⟩
          rw [← hz] at e1 hss hbad hnn
          obtain ⟨s, hs⟩ : ∃ s, s = savesTo ls zs k := ⟨_, rfl⟩
          rw [← hs] at hss hsb ⊢
          have hsb1 : 0 ≤ s ∧ s ≤ 2000000000 := by omega
          have HBAD := Lib.hid hbad
          have HNN := Lib.hid hnn
          have HSS := Lib.hid hss
          clear hcz hz hs hsb hbad hnn hss hn
          by_cases h0 : z < 0
          · go_wp2_with fail
            go_ret2
            rw [HBAD.out (.inl h0)]
            exact ⟨rfl, hB⟩
          · by_cases h1 : z < (ls.length : Int)
            · have hge : ¬ z ≥ (ls.length : Int) := by omega
              obtain ⟨q, rfl⟩ : ∃ q : Nat, z = (q : Int) := ⟨z.toNat, by omega⟩
              have hq : q < ls.length := by omega
              have hcb := HCB.out q (by omega) h1
              obtain ⟨al', cl', hvl, hcl⟩ := HRL.out
              injection hvl with q1 q2 q3
              subst q1
              clear q2 q3
              obtain ⟨gl, ol, rfl, hgl, hcl⟩ := hcl (by omega)
              obtain ⟨sv, _, _, _, _, _, l4⟩ := hcl q hq
              replace l4 := (hB.cell (p := ⟨gl, ol + q * 5 + 4, none⟩) hgl).trans l4
              have hca : centsAt ls (q : Int) = ls[q].cents := by
                unfold centsAt
                rw [Int.toNat_natCast, List.getD_eq_getElem?_getD, List.getElem?_eq_getElem hq]; rfl
              rw [hca] at hcb
              have HCA := Lib.hid hca
              have HN1 := Lib.hid (HNN.out (by omega) h1)
              obtain ⟨c, hc⟩ : ∃ c, c = ls[q].cents := ⟨_, rfl⟩
              rw [← hc] at l4 hcb HCA
              clear hcl hca hc
              go_wp2_with fail
              go_roundw
              case rel => exact ⟨k + 1, by omega, by go_num, by rw [HSS.out, HCA.out], HN1.out, hB⟩
              case measure => simp [intOf]; omega
            · have hge : z ≥ (ls.length : Int) := by omega
              go_wp2_with fail
              go_ret2
              rw [HBAD.out (.inr (by omega))]
              exact ⟨rfl, hB⟩
        · obtain rfl : k = zs.length := by omega
          rw [List.take_of_length_le (Nat.le_refl _)] at hn
          have HN := Lib.hid hn
          clear hn
          go_wp2_with fail
          go_ret2
          rw [HVR.out, if_neg HH2.out, if_pos ⟨HRI.out, HN.out⟩]
          exact ⟨rfl, hB⟩
def fewZ (ls : List Lev) : Bool := (ls.take 10).all (fun l => decide (l.labs.length ≤ 20)) && decide (ls.length ≤ 10)
theorem fewZ_each {ls : List Lev} (h : fewZ ls = true) : ls.length ≤ 10 ∧ ∀ l ∈ ls, l.labs.length ≤ 20 := by
  unfold fewZ at h
  rw [Bool.and_eq_true, decide_eq_true_eq] at h
  refine ⟨h.2, fun l hl => ?_⟩
  have := List.all_eq_true.1 h.1 l (by rw [List.take_of_length_le h.2]; exact hl)
  simpa using this
set_option maxHeartbeats 8000000 in
theorem few25_any (ls : List Lev) (v : Value) (w : World) (hr : RdLevs w v ls) (hb : ∀ l ∈ ls, l.labs.length ≤ 4398046511104) (hl : ls.length ≤ maxLen) :
    Calls Tryz.prog 13 #[v, .agg #[.int .u8 0, .int .u8 0, .string ⟨#[]⟩, .slice none 0 0]] w fun e w' => e = .returned (.bool (fewZ ls)) ∧ Below w.heap.size w w' := by
  have HRL := Lib.hid hr
  have HBB := Lib.hid hb
  obtain ⟨a, ca, rfl, _⟩ := hr
  unfold maxLen at hl
  have hb0 : Below w.heap.size w (w.alloc (.cells #[.int .u8 0, .int .u8 0, .string ⟨#[]⟩, .slice none 0 0] 29)) := (Below.refl _ w).alloc (Nat.le_refl _) _
  have hbx : ∀ W, Below (w.heap.size + 1) (w.alloc (.cells #[.int .u8 0, .int .u8 0, .string ⟨#[]⟩, .slice none 0 0] 29)) W → W.cell? ⟨w.heap.size, 3, none⟩ = some (.slice none 0 0) := fun W hW => (hW.cell (p := ⟨w.heap.size, 3, none⟩) (Nat.lt_succ_self _)).trans (cell_of_row _ _ 3 _ _ _ (alloc_new w _))
  obtain ⟨w0, hw0⟩ : ∃ w0, w0 = w.alloc (.cells #[.int .u8 0, .int .u8 0, .string ⟨#[]⟩, .slice none 0 0] 29) := ⟨_, rfl⟩
  rw [← hw0] at hb0 hbx
  have HBX := Lib.hid hbx
  have HW0 := Lib.hid hw0
  clear hbx hw0 hb
  go_enter Tryz.func13, Tryz.ntmps13
  go_wp2_with fail
  rw [← HW0.out]
  go_loopw [5] (fun i wr => ∃ k : Nat, k ≤ ls.length ∧ k ≤ 10 ∧ i = .int .i64 k ∧ (∀ j (hj : j < ls.length), j < k → ls[j].labs.length ≤ 20) ∧ wr = w0) (fun i _ => 10 - (intOf i).toNat)
  case atStart => exact ⟨0, Nat.zero_le _, Nat.zero_le _, rfl, fun j _ h => absurd h (Nat.not_lt_zero _), rfl⟩
  case round =>
    obtain ⟨k, hk, hk10, rfl, hok, hw⟩ := hrel
    have HOK := Lib.hid hok
    have hbw : Below w.heap.size w wr := by rw [hw]; exact hb0
    have HW := Lib.hid hw
    clear hok hw hb0
    by_cases hlt : k < ls.length ∧ k < 10
    · obtain ⟨h1, h2⟩ := hlt
      obtain ⟨al', cl', hvl, hcl⟩ := HRL.out
      injection hvl with q1 q2 q3
      subst q1
      clear q2 q3
      obtain ⟨gl, ol, rfl, hgl, hcl⟩ := hcl (by omega)
      obtain ⟨sv, hsv, _, _, l2, _, _⟩ := hcl k h1
      replace l2 := (hbw.cell (p := ⟨gl, ol + k * 5 + 2, none⟩) hgl).trans l2
      obtain ⟨as1, cs1, rfl, _⟩ := hsv
      have hbl := HBB.out _ (List.getElem_mem h1)
      have hge : fewZ ls = false ∨ ls[k].labs.length ≤ 20 := by
        by_cases h : ls[k].labs.length ≤ 20
        · exact .inr h
        · refine .inl ?_
          unfold fewZ
          have : (ls.take 10).all (fun l => decide (l.labs.length ≤ 20)) = false := by
            rw [List.all_eq_false]
            refine ⟨ls[k], ?_, by simpa using h⟩
            rw [← List.getElem_take (j := 10) (h := by rw [List.length_take]; omega)]
            exact List.getElem_mem _
          rw [this]; rfl
      have hst : ls[k].labs.length ≤ 20 → ∀ j (hj : j < ls.length), j < k + 1 → ls[j].labs.length ≤ 20 := fun h j hj hjk => by
        by_cases e : j = k
        · subst e; exact h
        · exact HOK.out j hj (by omega)
      obtain ⟨n, hn⟩ : ∃ n, n = ls[k].labs.length := ⟨_, rfl⟩
      rw [← hn] at l2 hge hst hbl
      have HGE := Lib.hid hge
      have HST := Lib.hid hst
      clear hn hge hst hcl
      by_cases h20 : n ≤ 20
      · have hng : ¬ (n : Int) > 20 := by omega
        go_wp2_with fail
        go_roundw
        case rel => exact ⟨k + 1, by omega, by omega, by go_num, HST.out h20, HW.out⟩
        case measure => simp [intOf]; omega
      · have hng : (n : Int) > 20 := by omega
        have hfz : fewZ ls = false := HGE.out.resolve_right h20
        have HFZ := Lib.hid hfz
        clear hfz
        go_wp2_with fail
        go_ret
        rw [HFZ.out]
        exact ⟨rfl, hbw⟩
    · have x3 := HBX.out wr (by rw [HW.out]; exact Below.refl _ _)
      by_cases h10 : ls.length ≤ 10
      · obtain rfl : k = ls.length := by omega
        have hfz : fewZ ls = true := by
          unfold fewZ
          rw [Bool.and_eq_true, decide_eq_true_eq, List.all_eq_true]
          refine ⟨fun l hl => ?_, h10⟩
          obtain ⟨j, hj, rfl⟩ := List.mem_iff_getElem.1 (List.mem_of_mem_take hl)
          exact decide_eq_true (HOK.out j hj hj)
        have HFZ := Lib.hid hfz
        clear hfz hlt
        go_wp2_with fail
        go_ret
        rw [HFZ.out]
        exact ⟨by simp, hbw⟩
      · obtain rfl : k = 10 := by omega
        have hfz : fewZ ls = false := by
          unfold fewZ
          rw [decide_eq_false h10, Bool.and_false]
        have HFZ := Lib.hid hfz
        have h11 : (10 : Int) < (ls.length : Int) := by omega
        have h12 : ¬ (ls.length : Int) ≤ 10 := by omega
        clear hfz hlt
        go_wp2_with fail
        go_ret
        rw [HFZ.out]
        exact ⟨by simp, hbw⟩
end Go.Proofs.YtpieagaggjngjaaGreat
