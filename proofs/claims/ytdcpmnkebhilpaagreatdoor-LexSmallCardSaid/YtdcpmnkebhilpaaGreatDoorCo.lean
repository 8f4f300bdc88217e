/-
  Contracts of strings.Cut at a blank, and of lex.Code.
-/
import Derived.Test.YtdcpmnkebhilpaaGreatDoorG
import Derived.Test.YtdcpmnkebhilpaaGreatDoorShelf
import Derived.Lib.IndexLaws
import Derived.Laws.BitsLemmas
import Derived.RegionTactic
import Derived.ChangeAlike
import Derived.Outline
namespace Go.Proofs.YtdcpmnkebhilpaaGreatDoor
open Go.RowKit
set_option linter.unusedVariables false
def cutB (s : ByteArray) : ByteArray × ByteArray × Bool :=
  if Lib.indexByte s.data.toList 32 = -1 then (s, ⟨#[]⟩, false) else (s.extract 0 (Lib.indexByte s.data.toList 32).toNat, s.extract ((Lib.indexByte s.data.toList 32).toNat + 1) s.size, true)
theorem cut_any (s : ByteArray) (w : World) (hs : s.size ≤ maxLen) :
    Calls Tryz.prog 77 #[.string s, .string ⟨#[32]⟩] w fun e w' => e = .returned (.tuple #[.string (cutB s).1, .string (cutB s).2.1, .bool (cutB s).2.2]) ∧ Below w.heap.size w w' := by
  unfold maxLen at hs
  by_cases hix : Lib.indexByte s.data.toList 32 = -1
  · have hc : cutB s = (s, ⟨#[]⟩, false) := by unfold cutB; rw [if_pos hix]
    rw [hc]
    clear hc
    have HX := Lib.hid hix
    clear hix
    go_enter Tryz.func77, Tryz.ntmps77
    go_wp2_with (go_at_call 105; refine (Tryz.stringslite_Index_one _ 32 _).mono ?_; rintro e w' ⟨rfl, rfl⟩; rw [HX.out])
    go_ret3
    exact ⟨rfl, Below.refl _ _⟩
  · obtain ⟨i, hi⟩ : ∃ i : Nat, Lib.indexByte s.data.toList 32 = i := ⟨(Lib.indexByte s.data.toList 32).toNat, by have := Lib.indexByte_ge s.data.toList 32; omega⟩
    have hib : i < s.size := by
      have := (Lib.indexByte_some hi).1
      have := (List.getElem?_eq_some_iff.1 this).1
      simpa using this
    have hc : cutB s = (s.extract 0 i, s.extract (i + 1) s.size, true) := by unfold cutB; rw [if_neg hix, hi]; rfl
    rw [hc]
    clear hc hix
    have HX := Lib.hid hi
    clear hi
    go_enter Tryz.func77, Tryz.ntmps77
    go_wp2_with (go_at_call 105; refine (Tryz.stringslite_Index_one _ 32 _).mono ?_; rintro e w' ⟨rfl, rfl⟩; rw [HX.out])
    go_region
    go_wp2_with fail
    go_ret3
    exact ⟨rfl, (Below.refl _ _).drew⟩
theorem strings_cut_any (s : ByteArray) (w : World) (hs : s.size ≤ maxLen) :
    Calls Tryz.prog 41 #[.string s, .string ⟨#[32]⟩] w fun e w' => e = .returned (.tuple #[.string (cutB s).1, .string (cutB s).2.1, .bool (cutB s).2.2]) ∧ Below w.heap.size w w' := by
  go_enter Tryz.func41, Tryz.ntmps41
  go_wp2_with (go_at_call 77; refine (cut_any _ _ hs).mono ?_; rintro e w' ⟨rfl, hb⟩)
  go_ret3
  exact ⟨rfl, hb⟩
theorem wrap_u16 (n : Int) (h0 : 0 ≤ n) (h1 : n < 2 ^ 16) : IntKind.u16.wrap n = n := by
  simp [IntKind.wrap, IntKind.bits, IntKind.signed]; omega
theorem and_u16 (a b : Nat) (ha : a < 2 ^ 16) (hb : b < 2 ^ 16) : bits BinOp.and IntKind.u16 (a : Int) (b : Int) = ((a &&& b : Nat) : Int) :=
  (bits_nat .u16 16 (by decide) wrap_u16 a b ha hb).1
theorem classesTo_bit (s : ByteArray) : ∀ n k, (classesTo s n).testBit k = (decide (k < n) && hasB s k)
  | 0, k => by simp [classesTo]
  | n + 1, k => by
    rw [classesTo]
    have hlt := classesTo_lt s n
    have ih := classesTo_bit s n k
    by_cases hk : k = n
    · subst hk
      have h0 : (classesTo s k).testBit k = false := Nat.testBit_lt_two_pow hlt
      cases hh : hasB s k
      · simp [h0]
      · rw [if_pos rfl, Nat.add_comm, Nat.testBit_two_pow_add_eq, h0]; simp
    · by_cases hk2 : k < n
      · cases hh : hasB s n
        · simp only [Bool.false_eq_true, if_false, Nat.add_zero, ih]
          rw [decide_eq_true hk2, decide_eq_true (by omega : k < n + 1)]
        · rw [if_pos rfl, Nat.add_comm, Nat.testBit_two_pow_add_gt hk2, ih, decide_eq_true hk2, decide_eq_true (by omega : k < n + 1)]
      · have h1 : (classesTo s n + if hasB s n = true then 2 ^ n else 0) < 2 ^ k := by
          have : 2 ^ (n + 1) ≤ 2 ^ k := Nat.pow_le_pow_right (by decide) (by omega)
          rw [Nat.pow_succ] at this
          split <;> omega
        rw [Nat.testBit_lt_two_pow h1, decide_eq_false (by omega : ¬ k < n + 1)]
        rfl
theorem and_pow (a k : Nat) : a &&& 2 ^ k = if a.testBit k then 2 ^ k else 0 := by
  apply Nat.eq_of_testBit_eq
  intro i
  rw [Nat.testBit_and, Nat.testBit_two_pow]
  by_cases h : k = i
  · subst h; cases hb : a.testBit k <;> simp
  · cases hb : a.testBit k <;> simp [h]
theorem class_bit (s : ByteArray) (k : Nat) (hk : k < 14) : bits BinOp.and IntKind.u16 (classesB s) ((2 ^ k : Nat) : Int) = if hasB s k then ((2 ^ k : Nat) : Int) else 0 := by
  have h1 := classesTo_lt s 14
  have h2 : 2 ^ k < 2 ^ 16 := Nat.pow_lt_pow_right (by decide) (by omega)
  rw [and_u16 _ _ (by unfold classesB; omega) h2, and_pow]
  unfold classesB
  rw [classesTo_bit s 14 k, decide_eq_true hk, Bool.true_and]
  cases hasB s k <;> simp
theorem class_zero (s : ByteArray) : bits BinOp.and IntKind.u16 (classesB s) 0 = 0 := by
  have := and_u16 (classesB s) 0 (by have := classesTo_lt s 14; unfold classesB; omega) (by decide)
  simpa using this
def codeR (c : Int) (s : ByteArray) : List UInt8 × Bool :=
  if c = 1 then (if hasB s 9 then (s.data.toList, true) else ([], false))
  else if c = 2 then
    (if (cutB s).2.2 ∧ hasB (cutB s).1 11 ∧ hasB (cutB s).2.1 12 then ((cutB s).1.data.toList ++ (cutB s).2.1.data.toList, true) else if hasB s 10 then (s.data.toList, true) else ([], false))
  else if c = 3 then (if hasB s 13 then (s.data.toList, true) else ([], false)) else ([], false)
theorem cutB_size (s : ByteArray) (hs : s.size ≤ maxLen) : (cutB s).1.size ≤ maxLen ∧ (cutB s).2.1.size ≤ maxLen ∧ ¬ 9223372036854775807 < (cutB s).1.size + (cutB s).2.1.size := by
  unfold maxLen at hs ⊢
  unfold cutB
  split
  · have : (⟨#[]⟩ : ByteArray).size = 0 := rfl
    simp only [this]
    omega
  · simp only [ByteArray.size_extract]
    omega
def CodePost (c : Int) (s : ByteArray) (w : World) (e : Ending) (w' : World) : Prop :=
  ∃ t : ByteArray, t.data.toList = (codeR c s).1 ∧ e = .returned (.tuple #[.string t, .bool (codeR c s).2]) ∧ Below w.heap.size w w'
theorem code_plain (c : Int) (k : Nat) (s : ByteArray) (w : World) (hs : s.size ≤ maxLen) (hc : (c = 1 ∧ k = 9) ∨ (c = 3 ∧ k = 13)) : Calls Tryz.prog 19 #[.int .u8 c, .string s] w (CodePost c s w) := by
  have hR : codeR c s = if hasB s k then (s.data.toList, true) else ([], false) := by rcases hc with ⟨rfl, rfl⟩ | ⟨rfl, rfl⟩ <;> rfl
  have hbit := class_bit s k (by rcases hc with ⟨rfl, rfl⟩ | ⟨rfl, rfl⟩ <;> decide)
  have F1 : Hid (∀ w', hasB s k = true → Below w.heap.size w w' → CodePost c s w (.returned (.tuple #[.string s, .bool true])) w') := fun w' h hb => ⟨s, by rw [hR, if_pos h], by rw [hR, if_pos h], hb⟩
  have F0 : Hid (∀ w', hasB s k = false → Below w.heap.size w w' → CodePost c s w (.returned (.tuple #[.string ⟨#[]⟩, .bool false])) w') := fun w' h hb => ⟨⟨#[]⟩, by rw [hR, if_neg (by rw [h]; simp)], by rw [hR, if_neg (by rw [h]; simp)], hb⟩
  clear hR
  rcases hc with ⟨rfl, rfl⟩ | ⟨rfl, rfl⟩
  all_goals
    cases hh : hasB s _
    all_goals
      rw [hh] at hbit
      simp at hbit
      go_enter Tryz.func19, Tryz.ntmps19
      go_wp2_with (go_at_call 21; refine (classes_any _ _ hs).mono ?_; rintro e w1 ⟨rfl, hb⟩)
      go_ret2
      first | exact F0.out _ hh hb | exact F1.out _ hh hb
theorem code_none (c : Int) (s : ByteArray) (w : World) (hs : s.size ≤ maxLen) (h1 : (c == 1) = false) (h2 : (c == 2) = false) (h3 : (c == 3) = false) : Calls Tryz.prog 19 #[.int .u8 c, .string s] w (CodePost c s w) := by
  have hR : codeR c s = ([], false) := by
    unfold codeR
    rw [if_neg (by simpa using h1), if_neg (by simpa using h2), if_neg (by simpa using h3)]
  have F0 : Hid (∀ w', Below w.heap.size w w' → CodePost c s w (.returned (.tuple #[.string ⟨#[]⟩, .bool false])) w') := fun w' hb => ⟨⟨#[]⟩, by rw [hR], by rw [hR], hb⟩
  clear hR
  have hz := class_zero s
  go_enter Tryz.func19, Tryz.ntmps19
  go_wp2_with (go_at_call 21; refine (classes_any _ _ hs).mono ?_; rintro e w1 ⟨rfl, hb⟩)
  go_ret2
  exact F0.out _ hb
set_option maxHeartbeats 1000000 in
theorem code_two (s : ByteArray) (w : World) (hs : s.size ≤ maxLen) : Calls Tryz.prog 19 #[.int .u8 2, .string s] w (CodePost 2 s w) := by
  have hR : codeR 2 s = (if (cutB s).2.2 ∧ hasB (cutB s).1 11 ∧ hasB (cutB s).2.1 12 then ((cutB s).1.data.toList ++ (cutB s).2.1.data.toList, true) else if hasB s 10 then (s.data.toList, true) else ([], false)) := rfl
  have hcut := fun w => strings_cut_any s w hs
  have hsz := cutB_size s hs
  generalize cutB s = ct at hR hcut hsz
  obtain ⟨f, l, ok⟩ := ct
  simp only at hR hcut hsz
  obtain ⟨hsz1, hsz2, hsz3⟩ := hsz
  have b0 := class_bit s 10 (by decide)
  have b1 := class_bit f 11 (by decide)
  have b2 := class_bit l 12 (by decide)
  have H := Lib.hid hcut
  clear hcut
  have hB : Below w.heap.size w w := Below.refl _ _
  by_cases hall : ok = true ∧ hasB f 11 = true ∧ hasB l 12 = true
  · rw [if_pos hall] at hR
    obtain ⟨rfl, h1, h2⟩ := hall
    rw [h1] at b1
    rw [h2] at b2
    simp at b0 b1 b2
    have F1 : Hid (∀ w', Below w.heap.size w w' → CodePost 2 s w (.returned (.tuple #[.string (f ++ l), .bool true])) w') := fun w' hb => ⟨f ++ l, by rw [hR]; simp, by rw [hR], hb⟩
    clear hR b0
    go_enter Tryz.func19, Tryz.ntmps19
    go_wp2_with (first | (go_at_call 41; refine (H.out _).mono ?_; rintro e w1 ⟨rfl, hb1⟩; replace hB := hB.trans (hb1.mono hB.size); clear hb1) | (go_at_call 21; refine (classes_any _ _ (by assumption)).mono ?_; rintro e w1 ⟨rfl, hb1⟩; replace hB := hB.trans (hb1.mono hB.size); clear hb1))
    go_ret2
    exact F1.out _ hB
  · rw [if_neg hall] at hR
    cases h0 : hasB s 10
    all_goals
      rw [h0] at hR b0
      simp at hR b0
    · have F0 : Hid (∀ w', Below w.heap.size w w' → CodePost 2 s w (.returned (.tuple #[.string ⟨#[]⟩, .bool false])) w') := fun w' hb => ⟨⟨#[]⟩, by rw [hR], by rw [hR], hb⟩
      clear hR
      cases ok
      · clear hall
        go_enter Tryz.func19, Tryz.ntmps19
        go_wp2_with (first | (go_at_call 41; refine (H.out _).mono ?_; rintro e w1 ⟨rfl, hb1⟩; replace hB := hB.trans (hb1.mono hB.size); clear hb1) | (go_at_call 21; refine (classes_any _ _ (by assumption)).mono ?_; rintro e w1 ⟨rfl, hb1⟩; replace hB := hB.trans (hb1.mono hB.size); clear hb1))
        go_ret2
        exact F0.out _ hB
      · cases h1 : hasB f 11
        · rw [h1] at b1
          simp at b1
          clear hall
          go_enter Tryz.func19, Tryz.ntmps19
          go_wp2_with (first | (go_at_call 41; refine (H.out _).mono ?_; rintro e w1 ⟨rfl, hb1⟩; replace hB := hB.trans (hb1.mono hB.size); clear hb1) | (go_at_call 21; refine (classes_any _ _ (by assumption)).mono ?_; rintro e w1 ⟨rfl, hb1⟩; replace hB := hB.trans (hb1.mono hB.size); clear hb1))
          go_ret2
          exact F0.out _ hB
        · cases h2 : hasB l 12
          · rw [h1] at b1
            rw [h2] at b2
            simp at b1 b2
            clear hall
            go_enter Tryz.func19, Tryz.ntmps19
            go_wp2_with (first | (go_at_call 41; refine (H.out _).mono ?_; rintro e w1 ⟨rfl, hb1⟩; replace hB := hB.trans (hb1.mono hB.size); clear hb1) | (go_at_call 21; refine (classes_any _ _ (by assumption)).mono ?_; rintro e w1 ⟨rfl, hb1⟩; replace hB := hB.trans (hb1.mono hB.size); clear hb1))
            go_ret2
            exact F0.out _ hB
          · exact absurd ⟨rfl, h1, h2⟩ hall
    · have F0 : Hid (∀ w', Below w.heap.size w w' → CodePost 2 s w (.returned (.tuple #[.string s, .bool true])) w') := fun w' hb => ⟨s, by rw [hR], by rw [hR], hb⟩
      clear hR
      cases ok
      · clear hall
        go_enter Tryz.func19, Tryz.ntmps19
        go_wp2_with (first | (go_at_call 41; refine (H.out _).mono ?_; rintro e w1 ⟨rfl, hb1⟩; replace hB := hB.trans (hb1.mono hB.size); clear hb1) | (go_at_call 21; refine (classes_any _ _ (by assumption)).mono ?_; rintro e w1 ⟨rfl, hb1⟩; replace hB := hB.trans (hb1.mono hB.size); clear hb1))
        go_ret2
        exact F0.out _ hB
      · cases h1 : hasB f 11
        · rw [h1] at b1
          simp at b1
          clear hall
          go_enter Tryz.func19, Tryz.ntmps19
          go_wp2_with (first | (go_at_call 41; refine (H.out _).mono ?_; rintro e w1 ⟨rfl, hb1⟩; replace hB := hB.trans (hb1.mono hB.size); clear hb1) | (go_at_call 21; refine (classes_any _ _ (by assumption)).mono ?_; rintro e w1 ⟨rfl, hb1⟩; replace hB := hB.trans (hb1.mono hB.size); clear hb1))
          go_ret2
          exact F0.out _ hB
        · cases h2 : hasB l 12
          · rw [h1] at b1
            rw [h2] at b2
            simp at b1 b2
            clear hall
            go_enter Tryz.func19, Tryz.ntmps19
            go_wp2_with (first | (go_at_call 41; refine (H.out _).mono ?_; rintro e w1 ⟨rfl, hb1⟩; replace hB := hB.trans (hb1.mono hB.size); clear hb1) | (go_at_call 21; refine (classes_any _ _ (by assumption)).mono ?_; rintro e w1 ⟨rfl, hb1⟩; replace hB := hB.trans (hb1.mono hB.size); clear hb1))
            go_ret2
            exact F0.out _ hB
          · exact absurd ⟨rfl, h1, h2⟩ hall
theorem code_any (c : Int) (s : ByteArray) (w : World) (hs : s.size ≤ maxLen) : Calls Tryz.prog 19 #[.int .u8 c, .string s] w (CodePost c s w) := by
  by_cases h1 : c = 1
  · exact code_plain c 9 s w hs (.inl ⟨h1, rfl⟩)
  by_cases h3 : c = 3
  · exact code_plain c 13 s w hs (.inr ⟨h3, rfl⟩)
  by_cases h2 : c = 2
  · subst h2; exact code_two s w hs
  · exact code_none c s w hs (by simpa using h1) (by simpa using h2) (by simpa using h3)
end Go.Proofs.YtdcpmnkebhilpaaGreatDoor
