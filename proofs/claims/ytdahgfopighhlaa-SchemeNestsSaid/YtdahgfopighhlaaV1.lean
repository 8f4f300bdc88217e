/-
  The walk of letterbaglaw23.SchemeNests.
-/
import Derived.Test.YtdahgfopighhlaaV0
namespace Go.Proofs.Ytdahgfopighhlaa
open Go.RowKit
set_option linter.unusedVariables false
set_option maxRecDepth 100000
/-- Two codes of five digits, of two numbers. -/
theorem codes2 (a b : UInt8) (w W : World) (hw : Below w.heap.size w W) : Calls Try.prog 12 #[.slice (some ⟨W.heap.size, 0, none⟩) 2 2] (W.alloc (.cells #[.int .u8 (a.toNat : Int), .int .u8 (b.toNat : Int)] 5)) fun e w' => ∃ g cap, e = .returned (.slice (some ⟨g, 0, none⟩) 2 cap) ∧ Below w.heap.size w w' ∧ Below W.heap.size W w' ∧ g < w'.heap.size ∧ w'.cell? ⟨g, 0, none⟩ = some (.string (code5 a)) ∧ w'.cell? ⟨g, 1, none⟩ = some (.string (code5 b)) := by
  refine (codes_any [a, b] _ _ (rd_bytes (T := 5) [a, b] (alloc_new W _)) (by show 2 ≤ maxLen; decide)).mono ?_
  rintro e w' ⟨v, rfl, hb, ho⟩
  have ho' : OwnsT w' (W.alloc (.cells #[.int .u8 (a.toNat : Int), .int .u8 (b.toNat : Int)] 5)).heap.size v [code5 a, code5 b] := ho
  obtain ⟨g, cap, rfl⟩ := Joins.ownsRow_form ho' (by show 0 < 2; decide)
  exact ⟨g, cap, rfl, below_ac hw hw.size hb, below_ac (Below.refl _ W) (Nat.le_refl _) hb, (ho'.lt g rfl).2, owns_cell ho' (k := 0) (by show 0 < 2; decide), owns_cell ho' (k := 1) (by show 1 < 2; decide)⟩
def sameAt (ls : List Lev) (c d : ByteArray) (i : Nat) : Bool := match i with | 0 => false | i + 1 => decide ((ls.map (fun l => grpOf l c))[i]? = (ls.map (fun l => grpOf l d))[i]?)
theorem sameAt_succ {ls : List Lev} {c d : ByteArray} {i : Nat} (hi : i < ls.length) : sameAt ls c d (i + 1) = decide (grpOf ls[i] c = grpOf ls[i] d) := by
  unfold sameAt
  dsimp only
  rw [List.getElem?_map, List.getElem?_map, List.getElem?_eq_getElem hi]
  simp
theorem sameAt_nest {ls : List Lev} {c d : ByteArray} (h : rightB ls = true) (hc : codeB c = true) (hd : codeB d = true) (hpc : ∀ l ∈ ls, l.pre ≤ c.size) (hpd : ∀ l ∈ ls, l.pre ≤ d.size) {i : Nat} (hi : i < ls.length) (hs : sameAt ls c d i = true) : grpOf ls[i] c = grpOf ls[i] d := by
  cases i with
  | zero => cases hs
  | succ i =>
    rw [sameAt_succ (by omega)] at hs
    exact path_nests h hc hd hpc hpd i hi (of_decide_eq_true hs)
theorem sameAt_end {ls : List Lev} {c d : ByteArray} (h : rightB ls = true) : sameAt ls c d ls.length = true := by
  have hl := right_len h
  obtain ⟨k, hk⟩ : ∃ k, ls.length = k + 1 := ⟨ls.length - 1, by omega⟩
  rw [hk, sameAt_succ (by omega), right_last h k hk.symm, right_last h k hk.symm]
  simp
set_option maxHeartbeats 16000000 in
theorem schemeNests_walk (n : Int) (a b : UInt8) (w : World) (hn0 : 0 ≤ n) (hn1 : n < 4294967296) :
    Calls Try.prog 7 #[.int .u32 n, .int .u8 (a.toNat : Int), .int .u8 (b.toNat : Int)] w fun e w' => e = .returned (.bool true) ∧ Below w.heap.size w w' := by
  have HRT := Lib.hid (made_right (bitsOf n) [] [])
  have HPR := Lib.hid (made_pre (bitsOf n) [] [])
  have HMD := Lib.hid (fun W (h : Below w.heap.size w W) => bytes_made w W hn0 hn1 h)
  generalize madeR (bitsOf n) [] [] = ls at HRT HPR HMD
  obtain ⟨hl1, hl6⟩ := right_len HRT.out
  have HCA := Lib.hid (code5_ok a)
  have HCB := Lib.hid (code5_ok b)
  have HPA : Hid (∀ l ∈ ls, l.pre ≤ (code5 a).size) := fun l hl => by rw [code5_size]; exact HPR.out l hl
  have HPB : Hid (∀ l ∈ ls, l.pre ≤ (code5 b).size) := fun l hl => by rw [code5_size]; exact HPR.out l hl
  have HC2 := Lib.hid (fun W (h : Below w.heap.size w W) => codes2 a b w W h)
  go_enter Try.func7, Try.ntmps7
  go_wp2_with fail
  refine (awake_any _).mono ?_
  rintro e W1 ⟨rfl, hB1⟩
  go_wp2_with fail
  refine (HMD.out _ hB1).mono ?_
  rintro e W2 ⟨v, rfl, hB2, _, hown⟩
  obtain ⟨xa, xcap, rfl⟩ := hown.form
  have HX := Lib.hid hown.reads
  clear hB1 hown HMD
  go_wp2_with fail
  refine (HC2.out _ hB2).mono ?_
  rintro e W3 ⟨gc, cc, rfl, hB3, hb3, hgc, hc0, hc1⟩
  have HX3 := Lib.hid (HX.out.below hb3)
  clear hB2 hb3 HX HC2
  generalize hca : code5 a = ca at HCA HPA hc0
  generalize hcb : code5 b = cb at HCB HPB hc1
  clear hca hcb
  go_wp2_with fail
  refine (path_ok ls _ ca w W3 HX3.out HRT.out HCA.out HPA.out hB3).mono ?_
  rintro e W4 ⟨gp, cp, rfl, hB4, hb4, hgp, hp⟩
  have HX4 := Lib.hid (HX3.out.below hb4)
  have d0 : W4.cell? ⟨gc, 0, none⟩ = _ := (hb4.cell (p := ⟨gc, 0, none⟩) hgc).trans hc0
  have d1 : W4.cell? ⟨gc, 1, none⟩ = _ := (hb4.cell (p := ⟨gc, 1, none⟩) hgc).trans hc1
  have hgc4 := Nat.lt_of_lt_of_le hgc hb4.size
  have HP := Lib.hid hp
  clear hB3 hb4 HX3 hc0 hc1 hgc hp
  go_wp2_with fail
  refine (path_ok ls _ cb w W4 HX4.out HRT.out HCB.out HPB.out hB4).mono ?_
  rintro e W5 ⟨gq, cq, rfl, hB5, hb5, hgq, hq⟩
  have HX5 := Lib.hid (HX4.out.below hb5)
  have e0 : W5.cell? ⟨gc, 0, none⟩ = _ := (hb5.cell (p := ⟨gc, 0, none⟩) hgc4).trans d0
  have hgc5 := Nat.lt_of_lt_of_le hgc4 hb5.size
  have hgp5 := Nat.lt_of_lt_of_le hgp hb5.size
  have HP5 : Hid (∀ i (hi : i < ls.length), W5.cell? ⟨gp, i, none⟩ = some (.string (grpOf ls[i] ca))) := fun i hi => (hb5.cell (p := ⟨gp, i, none⟩) hgp).trans (HP.out i hi)
  have HQ := Lib.hid hq
  clear hB4 hb5 HX4 d0 d1 hgc4 hgp HP hq
  go_wp2_with fail
  refine (right_ok ls _ w W5 HX5.out HRT.out hB5).mono ?_
  rintro e W6 ⟨rfl, hB6, hb6⟩
  have HX6 := Lib.hid (HX5.out.below hb6)
  have f0 : W6.cell? ⟨gc, 0, none⟩ = _ := (hb6.cell (p := ⟨gc, 0, none⟩) hgc5).trans e0
  have hgc6 := Nat.lt_of_lt_of_le hgc5 hb6.size
  have hgp6 := Nat.lt_of_lt_of_le hgp5 hb6.size
  have hgq6 := Nat.lt_of_lt_of_le hgq hb6.size
  have HP6 : Hid (∀ i (hi : i < ls.length), W6.cell? ⟨gp, i, none⟩ = some (.string (grpOf ls[i] ca))) := fun i hi => (hb6.cell (p := ⟨gp, i, none⟩) hgp5).trans (HP5.out i hi)
  have HQ6 : Hid (∀ i (hi : i < ls.length), W6.cell? ⟨gq, i, none⟩ = some (.string (grpOf ls[i] cb))) := fun i hi => (hb6.cell (p := ⟨gq, i, none⟩) hgq).trans (HQ.out i hi)
  clear hB5 hb6 HX5 e0 hgc5 hgp5 hgq HP5 HQ
  have hne : ((ls.length : Int) != (ls.length : Int)) = false := by simp
  have hp1 : W6.cell? ⟨gp, ls.length - 1, none⟩ = some (.string ⟨#[]⟩) := by rw [HP6.out _ (by omega), right_last HRT.out (ls.length - 1) (by omega)]
  have hq1 : W6.cell? ⟨gq, ls.length - 1, none⟩ = some (.string ⟨#[]⟩) := by rw [HQ6.out _ (by omega), right_last HRT.out (ls.length - 1) (by omega)]
  go_wp2_with fail
  go_loopw [13, 84] (fun s i wr => ∃ k : Nat, k ≤ ls.length ∧ i = .int .i64 k ∧ s = .bool (sameAt ls ca cb k) ∧ Below w.heap.size w wr ∧ Below W6.heap.size W6 wr) (fun _ i _ => ls.length - (intOf i).toNat)
  case atStart => exact ⟨0, Nat.zero_le _, rfl, rfl, hB6, Below.refl _ _⟩
  case round =>
    clear hp1 hq1 hB6
    obtain ⟨k, hk, rfl, rfl, hB, hb⟩ := hrel
    by_cases hlt : k < ls.length
    · have c1 : wr.cell? ⟨gp, k, none⟩ = some (.string (grpOf ls[k] ca)) := (hb.cell (p := ⟨gp, k, none⟩) hgp6).trans (HP6.out k hlt)
      have c2 : wr.cell? ⟨gq, k, none⟩ = some (.string (grpOf ls[k] cb)) := (hb.cell (p := ⟨gq, k, none⟩) hgq6).trans (HQ6.out k hlt)
      have c3 : wr.cell? ⟨gc, 0, none⟩ = some (.string ca) := (hb.cell (p := ⟨gc, 0, none⟩) hgc6).trans f0
      have hgpr := Nat.lt_of_lt_of_le hgp6 hb.size
      have hgcr := Nat.lt_of_lt_of_le hgc6 hb.size
      have HF := Lib.hid (fun W (h : Below wr.heap.size wr W) => find_ok ls (.slice xa ls.length xcap) ca k w W ((HX6.out.below hb).below h) HRT.out HCA.out HPA.out hlt (below_c hB hB.size h))
      have HSN := Lib.hid (sameAt_nest HRT.out HCA.out HCB.out HPA.out HPB.out hlt)
      have HSU := Lib.hid (sameAt_succ (c := ca) (d := cb) hlt)
      have hbe := ba_eq (grpOf ls[k] ca) (grpOf ls[k] cb)
      have hbs := ba_eq (grpOf ls[k] ca) (grpOf ls[k] ca)
      clear HP6 HQ6 HX6 f0
      generalize grpOf ls[k] ca = x at c1 HF HSN HSU hbe hbs
      generalize grpOf ls[k] cb = y at c2 HSN HSU hbe
      rw [decide_eq_true rfl] at hbs
      cases hs : sameAt ls ca cb k
      all_goals by_cases hxy : x = y
      · rw [decide_eq_true hxy] at hbe
        have HE : Hid (sameAt ls ca cb (k + 1) = true) := by rw [HSU.out]; exact decide_eq_true hxy
        clear hxy hs HSN HSU
        go_wp2_with fail
        go_quiet (fail)
        go_wp2_with fail
        go_quiet (fail)
        go_wp2_with (go_at_call 19; refine (HF.out _ (below_drewN (Below.refl _ wr) _)).mono ?_; rintro e w2 ⟨rfl, hb2, hb3⟩; have e1 : w2.cell? ⟨gp, k, none⟩ = some (.string x) := (hb3.cell (p := ⟨gp, k, none⟩) hgpr).trans c1)
        go_roundw
        case rel => exact ⟨k + 1, by omega, by go_num, by rw [HE.out], hb2, below_c hb hb.size (below_c (below_drewN (Below.refl _ wr) _) (Nat.le_refl _) hb3)⟩
        case measure => simp [intOf]; omega
      · rw [decide_eq_false hxy] at hbe
        have HE : Hid (sameAt ls ca cb (k + 1) = false) := by rw [HSU.out]; exact decide_eq_false hxy
        clear hxy hs HSN HSU
        go_wp2_with fail
        go_quiet (fail)
        go_wp2_with fail
        go_quiet (fail)
        go_wp2_with (go_at_call 19; refine (HF.out _ (below_drewN (Below.refl _ wr) _)).mono ?_; rintro e w2 ⟨rfl, hb2, hb3⟩; have e1 : w2.cell? ⟨gp, k, none⟩ = some (.string x) := (hb3.cell (p := ⟨gp, k, none⟩) hgpr).trans c1)
        go_roundw
        case rel => exact ⟨k + 1, by omega, by go_num, by rw [HE.out], hb2, below_c hb hb.size (below_c (below_drewN (Below.refl _ wr) _) (Nat.le_refl _) hb3)⟩
        case measure => simp [intOf]; omega
      · rw [decide_eq_true hxy] at hbe
        have HE : Hid (sameAt ls ca cb (k + 1) = true) := by rw [HSU.out]; exact decide_eq_true hxy
        clear hxy hs HSN HSU
        go_wp2_with fail
        go_quiet (fail)
        go_wp2_with fail
        go_quiet (fail)
        go_wp2_with (go_at_call 19; refine (HF.out _ (below_drewN (Below.refl _ wr) _)).mono ?_; rintro e w2 ⟨rfl, hb2, hb3⟩; have e1 : w2.cell? ⟨gp, k, none⟩ = some (.string x) := (hb3.cell (p := ⟨gp, k, none⟩) hgpr).trans c1)
        go_roundw
        case rel => exact ⟨k + 1, by omega, by go_num, by rw [HE.out], hb2, below_c hb hb.size (below_c (below_drewN (Below.refl _ wr) _) (Nat.le_refl _) hb3)⟩
        case measure => simp [intOf]; omega
      · exact absurd (HSN.out hs) hxy
    · have HE : Hid (sameAt ls ca cb k = true) := by
        obtain rfl : k = ls.length := by omega
        exact sameAt_end HRT.out
      go_wp2_with fail
      go_ret
      exact ⟨ret_bool HE.out, hB⟩
end Go.Proofs.Ytdahgfopighhlaa
