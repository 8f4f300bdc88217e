/-
  Contracts of isPlain, Code, isName of package scheme.
-/
import Derived.Test.YtdahgfopighhlaaS0
namespace Go.Proofs.Ytdahgfopighhlaa
open Go.RowKit
set_option linter.unusedVariables false
set_option maxRecDepth 100000
theorem plainC_true {n : Int} (h : 65 ≤ n ∧ n ≤ 90 ∨ 48 ≤ n ∧ n ≤ 57) : plainC n = true := by unfold plainC; simp; omega
theorem plainC_false {n : Int} (h : ¬ (65 ≤ n ∧ n ≤ 90 ∨ 48 ≤ n ∧ n ≤ 57)) : plainC n = false := by unfold plainC; simp; omega
set_option maxHeartbeats 1000000 in
theorem isPlain_any (s : ByteArray) (w : World) (hs : s.size ≤ maxLen) :
    Calls Try.prog 42 #[.string s] w fun e w' => e = .returned (.bool (plainB s)) ∧ Below w.heap.size w w' := by
  unfold maxLen at hs
  obtain ⟨cap, C, hcap, hconv, hcell⟩ := conv_bytes w s
  have HC := Lib.hid hcell
  clear hcell
  go_enter Try.func42, Try.ntmps42
  go_wp2_with fail
  go_loop [8] (fun i => ∃ k : Nat, k ≤ s.size ∧ i = .int .i64 k ∧ Hid (∀ j, j < k → ∀ h : j < s.size, plainC s[j].toNat = true)) (fun i => s.size - (intOf i).toNat)
  case atStart => exact ⟨0, Nat.zero_le _, rfl, fun j h => by omega⟩
  case round =>
    obtain ⟨k, hk, rfl, ha⟩ := hrel
    by_cases hlt : k < s.size
    · have c := HC.out k hlt
      have hn : Hid (plainC s[k].toNat = true → ∀ j, j < k + 1 → ∀ h : j < s.size, plainC s[j].toNat = true) := fun h1 j hj h => by
        by_cases e : j = k
        · subst e; exact h1
        · exact ha j (by omega) h
      have hf : Hid (plainC s[k].toNat = false → plainB s = false) := fun h1 => allB_false hlt h1
      generalize (s[k].toNat : Int) = n at c hn hf
      go_wp2_with fail
      all_goals first
        | (go_ret; exact ⟨ret_bool (hf.out (plainC_false (by omega))).symm, ((Below.refl _ w).drew).alloc (Nat.le_refl _) _⟩)
        | (go_round
           case rel => exact ⟨k + 1, by omega, by go_num, hn.out (plainC_true (by omega))⟩
           case measure => simp [intOf]; omega)
    · go_wp2_with fail
      go_ret
      exact ⟨ret_bool (allB_true fun j hj h => ha j (by omega) h).symm, ((Below.refl _ w).drew).alloc (Nat.le_refl _) _⟩
theorem code_any (s : ByteArray) (w : World) (hs : s.size ≤ maxLen) :
    Calls Try.prog 28 #[.string s] w fun e w' => e = .returned (.bool (codeB s)) ∧ Below w.heap.size w w' := by
  have hm := hs
  unfold maxLen at hs
  by_cases h : 1 ≤ s.size ∧ s.size ≤ 10
  · obtain ⟨h1, h2⟩ := h
    have hf : codeB s = plainB s := by unfold codeB; simp [h1, h2]
    have HF := Lib.hid hf
    clear hf
    go_enter Try.func28, Try.ntmps28
    go_wp2_with (go_at_call 42; refine (isPlain_any _ _ hm).mono ?_; rintro e w' ⟨rfl, hb⟩)
    go_ret
    exact ⟨ret_bool HF.out.symm, hb⟩
  · have hf : codeB s = false := by unfold codeB; simp; intro a b; exact absurd ⟨a, b⟩ h
    have HF := Lib.hid hf
    clear hf
    have h' : s.size < 1 ∨ 10 < s.size := by omega
    clear h
    rcases h' with h | h
    all_goals
      go_enter Try.func28, Try.ntmps28
      go_wp2_with fail
      go_ret
      exact ⟨ret_bool HF.out.symm, Below.refl _ _⟩
theorem isName1_any (n : Int) (w : World) :
    Calls Try.prog 58 #[.int .u8 n] w fun e w' => e = .returned (.bool (!nameC n)) ∧ w = w' := by
  go_enter Try.func58, Try.ntmps58
  go_wp2
  all_goals (go_ret; refine ⟨ret_bool ?_, rfl⟩; unfold nameC; rw [Bool.eq_iff_iff]; simp; try omega)
set_option maxHeartbeats 1000000 in
theorem indexBytes_any (s : ByteArray) (B cap : Nat) (w : World) (hs : s.size ≤ maxLen) (hc : ∀ j (h : j < s.size), w.cell? ⟨B, j, none⟩ = some (.int .u8 (s[j].toNat : Int))) :
    Calls Try.prog 70 #[.slice (some ⟨B, 0, none⟩) s.size cap, .func (.func 58) #[] #[]] w fun e w' => ∃ i : Int, e = .returned (.int .i64 i) ∧ decide (0 ≤ i) = !allB nameC s ∧ w = w' := by
  unfold maxLen at hs
  have HC := Lib.hid hc
  clear hc
  go_enter Try.func70, Try.ntmps70
  go_wp2_with fail
  go_loop [8] (fun i => ∃ k : Nat, k ≤ s.size ∧ i = .int .i64 k ∧ Hid (∀ j, j < k → ∀ h : j < s.size, nameC s[j].toNat = true)) (fun i => s.size - (intOf i).toNat)
  case atStart => exact ⟨0, Nat.zero_le _, rfl, fun j h => by omega⟩
  case round =>
    obtain ⟨k, hk, rfl, ha⟩ := hrel
    by_cases hlt : k < s.size
    · have c := HC.out k hlt
      have hn : Hid (nameC s[k].toNat = true → ∀ j, j < k + 1 → ∀ h : j < s.size, nameC s[j].toNat = true) := fun h1 j hj h => by
        by_cases e : j = k
        · subst e; exact h1
        · exact ha j (by omega) h
      have hf : Hid (nameC s[k].toNat = false → allB nameC s = false) := fun h1 => allB_false hlt h1
      generalize (s[k].toNat : Int) = n at c hn hf
      cases hd : nameC n
      all_goals go_wp2_with (go_at_call 58; refine (isName1_any _ _).mono ?_; rintro e w' ⟨rfl, rfl⟩)
      · go_ret
        exact ⟨_, rfl, by rw [hf.out hd]; simp, rfl⟩
      · go_round
        case rel => exact ⟨k + 1, by omega, by go_num, hn.out hd⟩
        case measure => simp [intOf]; omega
    · go_wp2_with fail
      go_ret
      exact ⟨_, rfl, by rw [allB_true fun j hj h => ha j (by omega) h]; rfl, rfl⟩
theorem containsBytes_any (s : ByteArray) (B cap : Nat) (w : World) (hs : s.size ≤ maxLen) (hc : ∀ j (h : j < s.size), w.cell? ⟨B, j, none⟩ = some (.int .u8 (s[j].toNat : Int))) :
    Calls Try.prog 57 #[.slice (some ⟨B, 0, none⟩) s.size cap, .func (.func 58) #[] #[]] w fun e w' => e = .returned (.bool (!allB nameC s)) ∧ w = w' := by
  have HC := Lib.hid hc
  clear hc
  go_enter Try.func57, Try.ntmps57
  go_wp2_with (go_at_call 70; refine (indexBytes_any _ _ _ _ hs HC.out).mono ?_; rintro e w' ⟨i, rfl, hi, rfl⟩; have HI := Lib.hid hi; clear hi)
  go_ret
  exact ⟨ret_bool HI.out, rfl⟩
theorem isName_any (s : ByteArray) (w : World) (hs : s.size ≤ maxLen) :
    Calls Try.prog 41 #[.string s] w fun e w' => e = .returned (.bool (nameB s)) ∧ Below w.heap.size w w' := by
  have hm := hs
  unfold maxLen at hs
  by_cases h : 1 ≤ s.size ∧ s.size ≤ 20
  · obtain ⟨h1, h2⟩ := h
    have hf : nameB s = allB nameC s := by unfold nameB; simp [h1, h2]
    have HF := Lib.hid hf
    clear hf
    obtain ⟨cap, C, hcap, hconv, hcell⟩ := conv_bytes w s
    have HC := Lib.hid hcell
    clear hcell
    go_enter Try.func41, Try.ntmps41
    go_wp2_with (go_at_call 57; refine (containsBytes_any s _ _ (w.alloc (.cells C 5 (C.size, C.size + 1))).drew hm (fun j h => HC.out j h)).mono ?_; rintro e w1 ⟨rfl, rfl⟩)
    go_ret
    exact ⟨ret_bool (by rw [HF.out]), ((Below.refl _ w).drew).alloc (Nat.le_refl _) _⟩
  · have hf : nameB s = false := by unfold nameB; simp; intro a b; exact absurd ⟨a, b⟩ h
    have HF := Lib.hid hf
    clear hf
    have h' : s.size < 1 ∨ 20 < s.size := by omega
    clear h
    rcases h' with h | h
    all_goals
      go_enter Try.func41, Try.ntmps41
      go_wp2_with fail
      go_ret
      exact ⟨ret_bool HF.out.symm, Below.refl _ _⟩
end Go.Proofs.Ytdahgfopighhlaa
