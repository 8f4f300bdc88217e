/-
  The walk of letterbaglaw08.LexNumbers.
-/
import Derived.Test.YtenenmlgnifelaaDoorNd
import Derived.Test.YtenenmlgnifelaaDoorAw
namespace Go.Proofs.YtenenmlgnifelaaDoor
open Go.RowKit
set_option linter.unusedVariables false
theorem digits_of (N : Nat) (n : Int) (w : World) (h : n = N) (h9 : N ≤ 999999) :
    Calls Tryd.prog 21 #[.int .i64 n] w fun e w' => e = .returned (.string ⟨(digGo 6 N).toArray⟩) ∧ Below w.heap.size w w' := by
  subst h; exact digits_any 5 N w (by omega) h9
theorem app_bytes (a b : List UInt8) : (⟨a.toArray⟩ : ByteArray) ++ ⟨b.toArray⟩ = ⟨(a ++ b).toArray⟩ := WideShapes.bytes_inj (by simp)
/-- What Number says of a number with one byte more. -/
def moreR (N : Nat) (c : UInt8) : Int × List UInt8 × Bool :=
  if isLetter (c.toNat : Int) then (N, [c], true) else if isDigit (c.toNat : Int) then (if N < 100000 then (10 * N + ((c.toNat : Int) - 48), [], true) else (0, [], false)) else (0, [], false)
theorem num_more {N : Nat} {l : List UInt8} (h : Digits N l) (h1 : 1 ≤ N) (h6 : N ≤ 999999) (c : UInt8) : numR ⟨(l ++ [c]).toArray⟩ = moreR N c := by
  unfold moreR
  cases hl : isLetter (c.toNat : Int)
  · cases hd : isDigit (c.toNat : Int)
    · exact num_other c hd hl
    · by_cases h5 : N < 100000
      · rw [if_neg (by simp), if_pos rfl, if_pos h5]; exact num_digit h h1 c hd h5
      · rw [if_neg (by simp), if_pos rfl, if_neg h5]; exact num_far h c hd (by omega)
  · exact num_letter h h1 (by omega) c hl
theorem four {x : Int} {N : Nat} (h : (N : Int) = 1 + x) (c : UInt8) :
    ((65 ≤ (c.toNat : Int) ∧ (c.toNat : Int) ≤ 90) ∧ moreR N c = (1 + x, [c], true)) ∨
    ((48 ≤ (c.toNat : Int) ∧ (c.toNat : Int) ≤ 57 ∧ 1 + x < 100000) ∧ moreR N c = (10 * (1 + x) + ((c.toNat : Int) - 48), [], true)) ∨
    ((48 ≤ (c.toNat : Int) ∧ (c.toNat : Int) ≤ 57 ∧ 100000 ≤ 1 + x) ∧ moreR N c = (0, [], false)) ∨
    (((c.toNat : Int) < 48 ∨ (57 < (c.toNat : Int) ∧ (c.toNat : Int) < 65) ∨ 90 < (c.toNat : Int)) ∧ moreR N c = (0, [], false)) := by
  unfold moreR
  by_cases hl : 65 ≤ (c.toNat : Int) ∧ (c.toNat : Int) ≤ 90
  · have e : isLetter (c.toNat : Int) = true := by unfold isLetter; simpa using hl
    left; exact ⟨hl, by rw [if_pos e, h]⟩
  · have e : ¬ isLetter (c.toNat : Int) = true := by unfold isLetter; simpa using hl
    right
    rw [if_neg e]
    by_cases hd : 48 ≤ (c.toNat : Int) ∧ (c.toNat : Int) ≤ 57
    · have e2 : isDigit (c.toNat : Int) = true := by unfold isDigit; simpa using hd
      rw [if_pos e2]
      by_cases h5 : N < 100000
      · left; exact ⟨⟨hd.1, hd.2, by omega⟩, by rw [if_pos h5, h]⟩
      · right; left; exact ⟨⟨hd.1, hd.2, by omega⟩, by rw [if_neg h5]⟩
    · have e2 : ¬ isDigit (c.toNat : Int) = true := by unfold isDigit; simpa using hd
      rw [if_neg e2]
      right; right; exact ⟨by omega, rfl⟩
set_option maxRecDepth 100000 in
set_option maxHeartbeats 8000000 in
theorem lexNumbers_walk (x : Int) (c : UInt8) (m : Int) (w : World) (hx : -9223372036854775808 ≤ x) (hx2 : x ≤ 9223372036854775807) (h0 : 0 < w.heap.size) (hm : w.cell? ⟨0, 0, none⟩ = some (.int .i64 m)) :
    Calls Tryd.prog 6 #[.int .i64 x, .int .u8 c.toNat] w fun e w' => e = .returned (.bool true) ∧ Below w.heap.size w w' := by
  have HM := Lib.hid hm
  clear hm
  have hp := fun W => pick_any x 999999 W (by decide) (by decide) hx hx2
  have hz0 : 0 ≤ x % 999999 := by omega
  have hz1 : x % 999999 ≤ 999998 := by omega
  generalize x % 999999 = y at hp hz0 hz1
  have HP := Lib.hid hp
  clear hp
  obtain ⟨N, hN⟩ : ∃ N : Nat, (N : Int) = 1 + y := ⟨(1 + y).toNat, by omega⟩
  have hdg := fun W => digits_of N (1 + y) W hN.symm (by omega)
  have hD := digits_go 5 N (by omega)
  have hl := hD.len_le (by omega) 6 (by omega)
  have n1 := num_self hD (by omega) (by omega)
  have n2 := num_more hD (by omega) (by omega) c
  have n3 := num_zero hD
  have n4 := num_six hD
  have h4 := four hN c
  rw [hN] at n1
  clear hD
  generalize digGo (5 + 1) N = l at hl n1 n2 n3 n4 hdg
  rw [← app_bytes l [c]] at n2
  rw [show (48 :: l) = [48] ++ l from rfl, ← app_bytes [48] l] at n3
  rw [← app_bytes l _] at n4
  have hk := conv1 (c.toNat : Int) c rfl
  have N1 := Lib.hid n1
  have N3 := Lib.hid n3
  have N4 := Lib.hid n4
  have HD := Lib.hid hdg
  clear n1 n3 n4 hdg hN
  have hc255 : (c.toNat : Int) ≤ 255 := by have := c.toNat_lt; omega
  have s1 : (⟨l.toArray⟩ : ByteArray).size ≤ maxLen := by unfold maxLen; rw [ba_size]; omega
  have s2 : ((⟨l.toArray⟩ : ByteArray) ++ ⟨[c].toArray⟩).size ≤ maxLen := by unfold maxLen; rw [app_bytes, ba_size, List.length_append, List.length_singleton]; omega
  have s3 : ((⟨[48].toArray⟩ : ByteArray) ++ ⟨l.toArray⟩).size ≤ maxLen := by unfold maxLen; rw [app_bytes, ba_size, List.length_append, List.length_singleton]; omega
  have s4 : ((⟨l.toArray⟩ : ByteArray) ++ ⟨[48, 48, 48, 48, 48, 48].toArray⟩).size ≤ maxLen := by unfold maxLen; rw [app_bytes, ba_size, List.length_append]; simp; omega
  have S1 := Lib.hid s1
  have S2 := Lib.hid s2
  have S3 := Lib.hid s3
  have S4 := Lib.hid s4
  have hle : (⟨l.toArray⟩ : ByteArray).size ≤ 6 := by rw [ba_size]; exact hl
  clear s1 s2 s3 s4
  rcases h4 with ⟨⟨c1, c2⟩, e⟩ | ⟨⟨c1, c2, c3⟩, e⟩ | ⟨⟨c1, c2, c3⟩, e⟩ | ⟨hc, e⟩
  case' inr.inl => have d5 : decide (1 + y < 100000) = true := decide_eq_true c3
  case' inr.inr.inl => have d5 : decide (1 + y < 100000) = false := decide_eq_false (by omega)
  all_goals
    rw [e] at n2
    have N2 := Lib.hid n2
    clear n2 e
    go_enter Tryd.func6, Tryd.ntmps6
    go_wp2_with (first
      | (go_at_call 11; refine (awake_any m _ h0 HM.out).mono ?_; rintro e w1 ⟨rfl, hB⟩)
      | (go_at_call 20; refine (HP.out _).mono ?_; rintro e w2 ⟨rfl, rfl⟩)
      | (go_at_call 21; refine (HD.out _).mono ?_; rintro e w2 ⟨rfl, hb2⟩; replace hB := hB.trans (hb2.mono hB.size); clear hb2))
    refine (number_ev N1.out S1.out _).mono ?_
    rintro e w3 ⟨rfl, hb3⟩
    replace hB := hB.trans (hb3.mono hB.size)
    clear hb3
    go_wp2_with fail
    refine (number_ev N2.out S2.out _).mono ?_
    rintro e w4 ⟨rfl, hb4⟩
    replace hB := (hB.alloc hB.size _).trans (hb4.mono (hB.alloc hB.size _).size)
    clear hb4
    go_wp2_with fail
    refine (number_ev N3.out S3.out _).mono ?_
    rintro e w5 ⟨rfl, hb5⟩
    replace hB := hB.trans (hb5.mono hB.size)
    clear hb5
    go_wp2_with fail
    refine (number_ev N4.out S4.out _).mono ?_
    rintro e w6 ⟨rfl, hb6⟩
    replace hB := hB.trans (hb6.mono hB.size)
    clear hb6
    go_wp2_with fail
  all_goals
    go_ret
    first | exact ⟨rfl, hB⟩ | exact ⟨rfl, hB.alloc hB.size _⟩
end Go.Proofs.YtenenmlgnifelaaDoor
