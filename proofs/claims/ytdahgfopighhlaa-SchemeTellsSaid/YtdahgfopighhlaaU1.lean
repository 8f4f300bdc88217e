/-
  The reference of layer 23: plain, Code, name, group.
-/
import Derived.Test.YtdahgfopighhlaaU0
namespace Go.Proofs.Ytdahgfopighhlaa
open Go.RowKit
set_option linter.unusedVariables false
set_option maxRecDepth 100000
set_option maxHeartbeats 1000000 in
theorem rPlain_any (s : ByteArray) (w : World) (hs : s.size ≤ maxLen) :
    Calls Try.prog 52 #[.string s] w fun e w' => e = .returned (.bool (plainB s)) ∧ w = w' := by
  unfold maxLen at hs
  go_enter Try.func52, Try.ntmps52
  go_wp2_with fail
  go_loop [3] (fun i => ∃ k : Nat, k ≤ s.size ∧ i = .int .i64 k ∧ Hid (∀ j, j < k → ∀ h : j < s.size, plainC s[j].toNat = true)) (fun i => s.size - (intOf i).toNat)
  case atStart => exact ⟨0, Nat.zero_le _, rfl, fun j h => by omega⟩
  case round =>
    obtain ⟨k, hk, rfl, ha⟩ := hrel
    by_cases hlt : k < s.size
    · have hn : Hid (plainC s[k].toNat = true → ∀ j, j < k + 1 → ∀ h : j < s.size, plainC s[j].toNat = true) := fun h1 j hj h => by
        by_cases e : j = k
        · subst e; exact h1
        · exact ha j (by omega) h
      have hf : Hid (plainC s[k].toNat = false → plainB s = false) := fun h1 => allB_false hlt h1
      clear ha
      have five : (s[k].toNat : Int) < 48 ∨ (48 ≤ (s[k].toNat : Int) ∧ (s[k].toNat : Int) ≤ 57) ∨ (57 < (s[k].toNat : Int) ∧ (s[k].toNat : Int) < 65) ∨ (65 ≤ (s[k].toNat : Int) ∧ (s[k].toNat : Int) ≤ 90) ∨ 90 < (s[k].toNat : Int) := by omega
      rcases five with h | ⟨h, h'⟩ | ⟨h, h'⟩ | ⟨h, h'⟩ | h
      · have d1 : decide (65 ≤ (s[k].toNat : Int)) = false := decide_eq_false (by omega)
        have d2 : decide (48 ≤ (s[k].toNat : Int)) = false := decide_eq_false (by omega)
        have HX := Lib.hid (hf.out (plainC_false (by omega)))
        clear hn hf h
        go_wp2_with fail
        go_ret
        exact ⟨ret_bool HX.out.symm, rfl⟩
      · have d1 : decide (65 ≤ (s[k].toNat : Int)) = false := decide_eq_false (by omega)
        have d2 : decide (48 ≤ (s[k].toNat : Int)) = true := decide_eq_true h
        have d3 : decide ((s[k].toNat : Int) ≤ 57) = true := decide_eq_true h'
        have HX := Lib.hid (hn.out (plainC_true (by omega)))
        clear hn hf h h'
        go_wp2_with fail
        go_round
        case rel => exact ⟨k + 1, by omega, by go_num, HX.out⟩
        case measure => simp [intOf]; omega
      · have d1 : decide (65 ≤ (s[k].toNat : Int)) = false := decide_eq_false (by omega)
        have d2 : decide (48 ≤ (s[k].toNat : Int)) = true := decide_eq_true (by omega)
        have d3 : decide ((s[k].toNat : Int) ≤ 57) = false := decide_eq_false (by omega)
        have HX := Lib.hid (hf.out (plainC_false (by omega)))
        clear hn hf h h'
        go_wp2_with fail
        go_ret
        exact ⟨ret_bool HX.out.symm, rfl⟩
      · have d1 : decide (65 ≤ (s[k].toNat : Int)) = true := decide_eq_true h
        have d2 : decide ((s[k].toNat : Int) ≤ 90) = true := decide_eq_true h'
        have HX := Lib.hid (hn.out (plainC_true (by omega)))
        clear hn hf h h'
        go_wp2_with fail
        go_round
        case rel => exact ⟨k + 1, by omega, by go_num, HX.out⟩
        case measure => simp [intOf]; omega
      · have d1 : decide (65 ≤ (s[k].toNat : Int)) = true := decide_eq_true (by omega)
        have d2 : decide ((s[k].toNat : Int) ≤ 90) = false := decide_eq_false (by omega)
        have d3 : decide (48 ≤ (s[k].toNat : Int)) = true := decide_eq_true (by omega)
        have d4 : decide ((s[k].toNat : Int) ≤ 57) = false := decide_eq_false (by omega)
        have HX := Lib.hid (hf.out (plainC_false (by omega)))
        clear hn hf h
        go_wp2_with fail
        go_ret
        exact ⟨ret_bool HX.out.symm, rfl⟩
    · go_wp2_with fail
      go_ret
      exact ⟨ret_bool (allB_true fun j hj h => ha j (by omega) h).symm, rfl⟩
theorem rCode_any (s : ByteArray) (w : World) (hs : s.size ≤ maxLen) :
    Calls Try.prog 37 #[.string s] w fun e w' => e = .returned (.bool (codeB s)) ∧ w = w' := by
  have hm := hs
  unfold maxLen at hs
  by_cases h : 1 ≤ s.size ∧ s.size ≤ 10
  · obtain ⟨h1, h2⟩ := h
    have hf : codeB s = plainB s := by unfold codeB; simp [h1, h2]
    have HF := Lib.hid hf
    clear hf
    go_enter Try.func37, Try.ntmps37
    go_wp2_with (go_at_call 52; refine (rPlain_any _ _ hm).mono ?_; rintro e w' ⟨rfl, rfl⟩)
    go_ret
    exact ⟨ret_bool HF.out.symm, rfl⟩
  · have hf : codeB s = false := by unfold codeB; simp; intro a b; exact absurd ⟨a, b⟩ h
    have HF := Lib.hid hf
    clear hf
    have h' : s.size < 1 ∨ 10 < s.size := by omega
    clear h
    rcases h' with h | h
    all_goals
      go_enter Try.func37, Try.ntmps37
      go_wp2_with fail
      go_ret
      exact ⟨ret_bool HF.out.symm, rfl⟩
theorem nameC_true {n : Int} (h1 : 33 ≤ n) (h2 : n ≤ 126) : nameC n = true := by unfold nameC; simp; omega
theorem nameC_false {n : Int} (h : n < 33 ∨ 126 < n) : nameC n = false := by unfold nameC; simp; omega
set_option maxHeartbeats 1000000 in
theorem rName_any (s : ByteArray) (w : World) (hs : s.size ≤ maxLen) :
    Calls Try.prog 67 #[.string s] w fun e w' => e = .returned (.bool (nameB s)) ∧ w = w' := by
  unfold maxLen at hs
  go_enter Try.func67, Try.ntmps67
  go_wp2_with fail
  go_loop [3] (fun i => ∃ k : Nat, k ≤ s.size ∧ i = .int .i64 k ∧ Hid (∀ j, j < k → ∀ h : j < s.size, nameC s[j].toNat = true)) (fun i => s.size - (intOf i).toNat)
  case atStart => exact ⟨0, Nat.zero_le _, rfl, fun j h => by omega⟩
  case round =>
    obtain ⟨k, hk, rfl, ha⟩ := hrel
    by_cases hlt : k < s.size
    · have hn : Hid (nameC s[k].toNat = true → ∀ j, j < k + 1 → ∀ h : j < s.size, nameC s[j].toNat = true) := fun h1 j hj h => by
        by_cases e : j = k
        · subst e; exact h1
        · exact ha j (by omega) h
      have hf : Hid (nameC s[k].toNat = false → nameB s = false) := fun h1 => by
        have : allB nameC s = false := allB_false hlt h1
        unfold nameB; rw [this]; simp
      clear ha
      go_wp2_with fail
      all_goals first
        | (go_ret; exact ⟨ret_bool (hf.out (nameC_false (by omega))).symm, rfl⟩)
        | (go_round
           case rel => exact ⟨k + 1, by omega, by go_num, hn.out (nameC_true (by omega) (by omega))⟩
           case measure => simp [intOf]; omega)
    · have hall : nameB s = (decide (1 ≤ s.size) && decide (s.size ≤ 20)) := by
        unfold nameB; rw [allB_true fun j hj h => ha j (by omega) h]; simp
      have HA := Lib.hid hall
      clear hall ha
      go_wp2_with fail
      all_goals
        go_ret
        refine ⟨ret_bool ?_, rfl⟩
        rw [HA.out, Bool.eq_iff_iff]
        simp
        try omega
theorem refGrp_at {l : Lev} {p : ByteArray} {k : Nat} (hk : k < l.labs.length) (hno : ∀ j, j < k → ∀ h : j < l.labs.length, l.labs[j].pre ≠ p) (h : l.labs[k].pre = p) : refGrp l p = l.labs[k].grp := by
  unfold refGrp labOf
  have : l.labs.find? (fun x => decide (x.pre = p)) = some l.labs[k] := by
    rw [List.find?_eq_some_iff_getElem]
    refine ⟨by simpa using h, k, hk, rfl, fun j hj => ?_⟩
    simpa using hno j hj (by omega)
  rw [this]; rfl
theorem refGrp_none {l : Lev} {p : ByteArray} (hno : ∀ j, j < l.labs.length → ∀ h : j < l.labs.length, l.labs[j].pre ≠ p) : refGrp l p = p := by
  unfold refGrp
  rw [labOf_none (fun i hi => hno i hi hi)]; rfl
set_option maxHeartbeats 2000000 in
theorem rGroup_any (l : Lev) (v : Value) (p : ByteArray) (w : World) (hl : l.labs.length ≤ 100000) (hv : RdLabs w v l.labs) :
    Calls Try.prog 51 #[lvA l v, .string p] w fun e w' => e = .returned (.string (refGrp l p)) ∧ Below w.heap.size w w' := by
  obtain ⟨a, cap, rfl, hc⟩ := hv
  have HC := Lib.hid hc
  have HB0 : Hid (Below w.heap.size w (w.alloc (.cells #[.string l.name, .int .i64 l.pre, .slice a l.labs.length cap, .int .i64 l.min, .int .i64 l.cents] 45))) := (Below.refl _ w).alloc (Nat.le_refl _) _
  clear hc
  unfold lvA
  go_enter Try.func51, Try.ntmps51
  go_wp2_with fail
  go_loop [5] (fun i => ∃ k : Nat, k ≤ l.labs.length ∧ i = .int .i64 k ∧ Hid (∀ j, j < k → ∀ h : j < l.labs.length, l.labs[j].pre ≠ p)) (fun i => l.labs.length - (intOf i).toNat)
  case atStart => exact ⟨0, Nat.zero_le _, rfl, fun j h => by omega⟩
  case round =>
    obtain ⟨k, hk, rfl, ha⟩ := hrel
    by_cases hlt : k < l.labs.length
    · obtain ⟨g, off, rfl, hg, hcc⟩ := HC.out (by omega)
      obtain ⟨c1, c2⟩ := hcc k hlt
      have HY : Hid (l.labs[k].pre = p → refGrp l p = l.labs[k].grp) := fun h => refGrp_at hlt ha.out h
      have HN : Hid (l.labs[k].pre ≠ p → ∀ j, j < k + 1 → ∀ h : j < l.labs.length, l.labs[j].pre ≠ p) := fun h => upto_succ (P := fun j => ∀ h : j < l.labs.length, l.labs[j].pre ≠ p) ha.out (fun _ => h)
      generalize l.labs[k] = x at c1 c2 HY HN
      have hd : decide ((k : Int) < (l.labs.length : Int)) = true := decide_eq_true (by omega)
      have hbe := ba_eq x.pre p
      clear hcc HC ha
      by_cases he : x.pre = p
      · rw [decide_eq_true he] at hbe
        have HE := Lib.hid (HY.out he)
        clear HY HN
        go_wp2_with fail
        go_ret
        exact ⟨ret_str HE.out.symm, HB0.out⟩
      · rw [decide_eq_false he] at hbe
        have HE := Lib.hid (HN.out he)
        clear HY HN
        go_wp2_with fail
        go_round
        case rel => exact ⟨k + 1, by omega, by go_num, HE.out⟩
        case measure => simp [intOf]; omega
    · obtain rfl : k = l.labs.length := by omega
      have HE := Lib.hid (refGrp_none (l := l) (p := p) ha.out)
      clear HC ha
      go_wp2_with fail
      go_ret
      exact ⟨ret_str HE.out.symm, HB0.out⟩
end Go.Proofs.Ytdahgfopighhlaa
