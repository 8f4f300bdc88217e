/-
  Contracts of the byte tests of package lex, and of 'all' at each of them.
-/
import Derived.Test.YtdcpmnkebhilpaaGreatDoorProg
import Derived.WalkKit
import Derived.WalkSpells
import Derived.Outline
import Derived.Below
import Derived.Deep.QuietTactic
import Derived.BigQuiet
import Derived.Lib.Hide
namespace Go.Proofs.YtdcpmnkebhilpaaGreatDoor
open Go.RowKit
theorem ret_bool {a b : Bool} (h : a = b) : Ending.returned (.bool a) = .returned (.bool b) := by rw [h]
def isDigit (n : Int) : Bool := decide (48 ≤ n ∧ n ≤ 57)
def isLetter (n : Int) : Bool := decide (65 ≤ n ∧ n ≤ 90)
def isFlat (n : Int) : Bool := isLetter n || isDigit n
theorem digit_any (n : Int) (w : World) :
    Calls Tryz.prog 53 #[.int .u8 n] w fun e w' => e = .returned (.bool (isDigit n)) ∧ w = w' := by
  go_enter Tryz.func53, Tryz.ntmps53
  go_wp2
  all_goals (go_ret; refine ⟨?_, rfl⟩; congr 2; unfold isDigit; simp; try omega)
theorem letter_any (n : Int) (w : World) :
    Calls Tryz.prog 51 #[.int .u8 n] w fun e w' => e = .returned (.bool (isLetter n)) ∧ w = w' := by
  go_enter Tryz.func51, Tryz.ntmps51
  go_wp2
  all_goals (go_ret; refine ⟨?_, rfl⟩; congr 2; unfold isLetter; simp; try omega)
theorem flat_any (n : Int) (w : World) :
    Calls Tryz.prog 48 #[.int .u8 n] w fun e w' => e = .returned (.bool (isFlat n)) ∧ w = w' := by
  unfold isFlat
  cases h : isLetter n
  all_goals
    go_enter Tryz.func48, Tryz.ntmps48
    go_wp2_with (first | (go_at_call 51; refine (letter_any _ _).mono ?_; rintro e w' ⟨rfl, rfl⟩) | (go_at_call 53; refine (digit_any _ _).mono ?_; rintro e w' ⟨rfl, rfl⟩))
    go_ret
    exact ⟨by simp, rfl⟩
def allB (p : Int → Bool) (s : ByteArray) : Bool := s.data.toList.all (fun c => p c.toNat)
theorem allB_true {p : Int → Bool} {s : ByteArray} (h : ∀ j, j < s.size → ∀ h : j < s.size, p s[j].toNat = true) : allB p s = true := by
  unfold allB
  rw [List.all_eq_true]
  intro c hc
  obtain ⟨j, hj, rfl⟩ := List.mem_iff_getElem.1 hc
  have hj' : j < s.size := by simpa using hj
  exact h j hj' hj'
theorem allB_false {p : Int → Bool} {s : ByteArray} {k : Nat} (hk : k < s.size) (h : p s[k].toNat = false) : allB p s = false := by
  unfold allB
  rw [List.all_eq_false]
  exact ⟨s[k], Array.mem_toList_iff.2 (Array.getElem_mem (xs := s.data) hk), by rw [h]; simp⟩
theorem all_digit (s : ByteArray) (w : World) (hs : s.size ≤ maxLen) :
    Calls Tryz.prog 47 #[.string s, .func (.func 53) #[] #[]] w fun e w' => e = .returned (.bool (allB isDigit s)) ∧ w = w' := by
  unfold maxLen at hs
  go_enter Tryz.func47, Tryz.ntmps47
  go_wp2_with fail
  go_loop [5] (fun i => ∃ k : Nat, k ≤ s.size ∧ i = .int .i64 k ∧ Hid (∀ j, j < k → ∀ h : j < s.size, isDigit s[j].toNat = true)) (fun i => s.size - (intOf i).toNat)
  case atStart => exact ⟨0, Nat.zero_le _, rfl, fun j h => by omega⟩
  case round =>
    obtain ⟨k, hk, rfl, ha⟩ := hrel
    by_cases hlt : k < s.size
    · cases hd : isDigit s[k].toNat
      all_goals go_wp2_with (go_at_call 53; refine (digit_any _ _).mono ?_; rintro e w' ⟨rfl, rfl⟩)
      · go_ret
        exact ⟨ret_bool (allB_false hlt hd).symm, rfl⟩
      · go_round
        case rel => exact ⟨k + 1, by omega, by go_num, fun j hj h => by by_cases e : j = k; · subst e; exact hd
                                                                        · exact ha j (by omega) h⟩
        case measure => simp [intOf]; omega
    · go_wp2_with fail
      go_ret
      exact ⟨ret_bool (allB_true fun j hj h => ha j (by omega) h).symm, rfl⟩
theorem all_flat (s : ByteArray) (w : World) (hs : s.size ≤ maxLen) :
    Calls Tryz.prog 47 #[.string s, .func (.func 48) #[] #[]] w fun e w' => e = .returned (.bool (allB isFlat s)) ∧ w = w' := by
  unfold maxLen at hs
  go_enter Tryz.func47, Tryz.ntmps47
  go_wp2_with fail
  go_loop [5] (fun i => ∃ k : Nat, k ≤ s.size ∧ i = .int .i64 k ∧ Hid (∀ j, j < k → ∀ h : j < s.size, isFlat s[j].toNat = true)) (fun i => s.size - (intOf i).toNat)
  case atStart => exact ⟨0, Nat.zero_le _, rfl, fun j h => by omega⟩
  case round =>
    obtain ⟨k, hk, rfl, ha⟩ := hrel
    by_cases hlt : k < s.size
    · cases hd : isFlat s[k].toNat
      all_goals go_wp2_with (go_at_call 48; refine (flat_any _ _).mono ?_; rintro e w' ⟨rfl, rfl⟩)
      · go_ret
        exact ⟨ret_bool (allB_false hlt hd).symm, rfl⟩
      · go_round
        case rel => exact ⟨k + 1, by omega, by go_num, fun j hj h => by by_cases e : j = k; · subst e; exact hd
                                                                        · exact ha j (by omega) h⟩
        case measure => simp [intOf]; omega
    · go_wp2_with fail
      go_ret
      exact ⟨ret_bool (allB_true fun j hj h => ha j (by omega) h).symm, rfl⟩
end Go.Proofs.YtdcpmnkebhilpaaGreatDoor
