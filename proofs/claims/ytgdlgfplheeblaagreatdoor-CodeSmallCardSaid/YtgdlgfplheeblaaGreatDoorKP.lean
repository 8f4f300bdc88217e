/-
  Plain laws about the codes of countries (of lex, cut down to this seat).
-/
import Derived.Test.YtgdlgfplheeblaaGreatDoorCo
import Derived.Test.YtgdlgfplheeblaaGreatDoorK9
namespace Go.Proofs.YtgdlgfplheeblaaGreatDoor
set_option linter.unusedVariables false
theorem matches_len {l : List UInt8} {ks : List Bool} (h : matchesB l ks = true) : l.length = ks.length := by
  by_cases e : l.length = ks.length
  · exact e
  · rw [matchesB_len l ks e] at h; cases h
theorem matches_flat : ∀ {l : List UInt8} {ks : List Bool}, matchesB l ks = true → ∀ c ∈ l, isFlat c.toNat = true
  | [], [], _ => by simp
  | [], _ :: _, h => by cases h
  | _ :: _, [], h => by cases h
  | c :: l, k :: ks, h => by
    rw [matchesB, Bool.and_eq_true] at h
    intro d hd
    rcases List.mem_cons.1 hd with rfl | hd
    · unfold isFlat
      have := h.1
      unfold kindB at this
      cases k <;> simp at this <;> simp [this]
    · exact matches_flat h.2 d hd
/-- The kinds of the bytes of a country's code. -/
def patOf (k : Nat) : List Bool := if k = 1 then [false, false, false, false, false] else if k = 2 then [true, false, true, false, true, false] else [false, false, false, false]
theorem byte_at_index {l : List UInt8} {i : Nat} {c : UInt8} (h : l[i]? = some c) : l = l.take i ++ c :: l.drop (i + 1) := by
  obtain ⟨hi, he⟩ := List.getElem?_eq_some_iff.1 h
  rw [← he, ← List.drop_eq_getElem_cons hi, List.take_append_drop]
theorem cut_cases (s : ByteArray) : ((cutB s).2.2 = false ∧ (32 : UInt8) ∉ s.data.toList) ∨ ((cutB s).2.2 = true ∧ s.data.toList = (cutB s).1.data.toList ++ 32 :: (cutB s).2.1.data.toList) := by
  unfold cutB
  by_cases hix : Lib.indexByte s.data.toList 32 = -1
  · rw [if_pos hix]
    left
    refine ⟨rfl, fun h => ?_⟩
    obtain ⟨k, hk⟩ := List.mem_iff_getElem?.1 h
    exact Lib.indexByte_none hix k hk
  · rw [if_neg hix]
    right
    refine ⟨rfl, ?_⟩
    obtain ⟨i, hi⟩ : ∃ i : Nat, Lib.indexByte s.data.toList 32 = i := ⟨(Lib.indexByte s.data.toList 32).toNat, by have := Lib.indexByte_ge s.data.toList 32; omega⟩
    rw [hi, Int.toNat_natCast]
    simp only
    rw [ByteArray.data_extract, ByteArray.data_extract, Array.toList_extract, Array.toList_extract, List.extract_eq_take_drop, List.extract_eq_take_drop]
    have e := byte_at_index (Lib.indexByte_some hi).1
    have hl : (s.data.toList.drop (i + 1)).take (s.size - (i + 1)) = s.data.toList.drop (i + 1) := List.take_of_length_le (by simp)
    rw [hl]
    simpa using e
theorem flat_no_blank : isFlat (((32 : UInt8).toNat : Nat) : Int) = false := by decide
theorem matches_no_blank {l : List UInt8} {ks : List Bool} (h : matchesB l ks = true) : (32 : UInt8) ∉ l := fun hm => by
  have := matches_flat h 32 hm
  rw [flat_no_blank] at this; cases this
theorem matches_app : ∀ {a b : List UInt8} {ks js : List Bool}, matchesB a ks = true → matchesB b js = true → matchesB (a ++ b) (ks ++ js) = true
  | [], b, [], js, _, h => h
  | [], _, _ :: _, _, h, _ => by cases h
  | _ :: _, _, [], _, h, _ => by cases h
  | c :: a, b, k :: ks, js, h, h' => by
    rw [matchesB, Bool.and_eq_true] at h
    show matchesB (c :: (a ++ b)) (k :: (ks ++ js)) = true
    rw [matchesB, Bool.and_eq_true]
    exact ⟨h.1, matches_app h.2 h'⟩
/-- A text of three letters and digits, a blank and three more has seven bytes. -/
theorem cut_len {s : ByteArray} (h : (cutB s).2.2 = true) (h1 : hasB (cutB s).1 11 = true) (h2 : hasB (cutB s).2.1 12 = true) : s.size = 7 := by
  rcases cut_cases s with ⟨h', _⟩ | ⟨_, e⟩
  · rw [h] at h'; cases h'
  · have a := matches_len h1
    have b := matches_len h2
    have := congrArg List.length e
    simp at this a b
    omega
theorem code_simple {k : Nat} (hk : k = 1 ∨ k = 2 ∨ k = 3) {s : ByteArray} (h : s.size ≠ 7 ∨ (32 : UInt8) ∉ s.data.toList) :
    codeR (k : Int) s = if matchesB s.data.toList (patOf k) then (s.data.toList, true) else ([], false) := by
  rcases hk with rfl | rfl | rfl
  · rfl
  · have hno : ¬ ((cutB s).2.2 = true ∧ hasB (cutB s).1 11 = true ∧ hasB (cutB s).2.1 12 = true) := fun ⟨a, b, c⟩ => by
      rcases h with h | h
      · exact h (cut_len a b c)
      · rcases cut_cases s with ⟨h', _⟩ | ⟨_, e⟩
        · rw [a] at h'; cases h'
        · apply h; rw [e]; simp
    show (if (cutB s).2.2 = true ∧ hasB (cutB s).1 11 = true ∧ hasB (cutB s).2.1 12 = true then _ else _) = _
    rw [if_neg hno]
    rfl
  · rfl
theorem filter_self {l : List UInt8} (h : (32 : UInt8) ∉ l) : l.filter (fun c => decide (c ≠ 32)) = l := by
  rw [List.filter_eq_self]
  intro c hc
  simp only [decide_eq_true_eq]
  rintro rfl
  exact h hc
theorem code_cases (k : Int) (s : ByteArray) : codeR k s = ([], false) ∨ ∃ j : Nat, k = j ∧ (j = 1 ∨ j = 2 ∨ j = 3) ∧ codeR k s = (s.data.toList.filter (fun c => decide (c ≠ 32)), true) ∧ matchesB (s.data.toList.filter (fun c => decide (c ≠ 32))) (patOf j) = true := by
  have key : ∀ j : Nat, (j = 1 ∨ j = 2 ∨ j = 3) → k = j → matchesB s.data.toList (patOf j) = true → codeR k s = (s.data.toList, true) → ∃ j : Nat, k = j ∧ (j = 1 ∨ j = 2 ∨ j = 3) ∧ codeR k s = (s.data.toList.filter (fun c => decide (c ≠ 32)), true) ∧ matchesB (s.data.toList.filter (fun c => decide (c ≠ 32))) (patOf j) = true :=
    fun j hj hk hm hc => ⟨j, hk, hj, by rw [filter_self (matches_no_blank hm)]; exact hc, by rw [filter_self (matches_no_blank hm)]; exact hm⟩
  by_cases h1 : k = 1
  · subst h1
    have e := code_simple (k := 1) (.inl rfl) (s := s)
    cases hm : matchesB s.data.toList (patOf 1)
    · left
      show (if hasB s 9 then _ else _) = _
      rw [show hasB s 9 = false from hm]; rfl
    · right
      refine key 1 (.inl rfl) rfl hm ?_
      show (if hasB s 9 then _ else _) = _
      rw [show hasB s 9 = true from hm]; rfl
  by_cases h3 : k = 3
  · subst h3
    cases hm : matchesB s.data.toList (patOf 3)
    · left
      show (if hasB s 13 then _ else _) = _
      rw [show hasB s 13 = false from hm]; rfl
    · right
      refine key 3 (.inr (.inr rfl)) rfl hm ?_
      show (if hasB s 13 then _ else _) = _
      rw [show hasB s 13 = true from hm]; rfl
  by_cases h2 : k = 2
  · subst h2
    by_cases hc : (cutB s).2.2 = true ∧ hasB (cutB s).1 11 = true ∧ hasB (cutB s).2.1 12 = true
    · right
      have e0 : codeR 2 s = ((cutB s).1.data.toList ++ (cutB s).2.1.data.toList, true) := by
        show (if (cutB s).2.2 = true ∧ hasB (cutB s).1 11 = true ∧ hasB (cutB s).2.1 12 = true then _ else _) = _
        rw [if_pos hc]
      obtain ⟨a, b, c⟩ := hc
      rcases cut_cases s with ⟨h', _⟩ | ⟨_, e⟩
      · rw [a] at h'; cases h'
      · have hf : s.data.toList.filter (fun c => decide (c ≠ 32)) = (cutB s).1.data.toList ++ (cutB s).2.1.data.toList := by
          have e1 := filter_self (matches_no_blank b)
          have e2 := filter_self (matches_no_blank c)
          rw [e, List.filter_append, List.filter_cons, e1, e2]
          simp
        refine ⟨2, rfl, .inr (.inl rfl), by rw [hf]; exact e0, ?_⟩
        rw [hf]
        exact matches_app (ks := [true, false, true]) (js := [false, true, false]) b c
    · have e0 : codeR 2 s = if hasB s 10 then (s.data.toList, true) else ([], false) := by
        show (if (cutB s).2.2 = true ∧ hasB (cutB s).1 11 = true ∧ hasB (cutB s).2.1 12 = true then _ else _) = _
        rw [if_neg hc]
      cases hm : matchesB s.data.toList (patOf 2)
      · left
        rw [e0, show hasB s 10 = false from hm]; rfl
      · right
        refine key 2 (.inr (.inl rfl)) rfl hm ?_
        rw [e0, show hasB s 10 = true from hm]; rfl
  · left
    unfold codeR
    rw [if_neg h1, if_neg h2, if_neg h3]
end Go.Proofs.YtgdlgfplheeblaaGreatDoor
