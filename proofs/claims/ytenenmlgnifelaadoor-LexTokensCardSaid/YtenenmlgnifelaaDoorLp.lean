/-
  Plain laws about the classes of a word: which ones exclude each other, and that a word with a class is folded.
-/
import Derived.Test.YtenenmlgnifelaaDoorCo
import Derived.Test.YtenenmlgnifelaaDoorNu
import Derived.Test.YtenenmlgnifelaaDoorFo2
namespace Go.Proofs.YtenenmlgnifelaaDoor
set_option linter.unusedVariables false
theorem mem_get {s : ByteArray} {k : Nat} (h : k < s.size) : s[k] ∈ s.data.toList := Array.mem_toList_iff.2 (Array.getElem_mem (xs := s.data) h)
theorem anyB_false {p : Int → Bool} {s : ByteArray} (h : ∀ c ∈ s.data.toList, p c.toNat = false) : anyB p s = false := by
  unfold anyB; rw [List.any_eq_false]; intro c hc; rw [h c hc]; simp
theorem digit_not_letter {n : Int} (h : isDigit n = true) : isLetter n = false := by unfold isDigit at h; unfold isLetter; simp at h ⊢; omega
theorem number_digits {s : ByteArray} (h : numberB s = true) : ∀ c ∈ s.data.toList, isDigit c.toNat = true := by
  unfold numberB at h
  simp only [Bool.and_eq_true] at h
  exact fun c hc => List.all_eq_true.1 h.2 c hc
theorem number_no_name {s : ByteArray} (h : numberB s = true) : nameB s = false := by
  unfold nameB
  rw [anyB_false (fun c hc => digit_not_letter (number_digits h c hc)), Bool.and_false]
theorem lettered_parts {s : ByteArray} (h : letteredB s = true) : 1 < s.size ∧ numberB (s.extract 0 (s.size - 1)) = true ∧ isLetter (s.data.toList.getD (s.size - 1) 0).toNat = true := by
  unfold letteredB at h
  simp only [Bool.and_eq_true, decide_eq_true_eq] at h
  exact ⟨h.1.1, h.1.2, h.2⟩
theorem getD_mem' {l : List UInt8} {k : Nat} (h : k < l.length) : l.getD k 0 ∈ l := by
  rw [List.getD_eq_getElem?_getD, List.getElem?_eq_getElem h]; exact List.getElem_mem h
theorem number_not_lettered {s : ByteArray} (h : numberB s = true) : letteredB s = false := by
  cases hl : letteredB s
  · rfl
  · obtain ⟨h1, _, h3⟩ := lettered_parts hl
    have := digit_not_letter (number_digits h _ (getD_mem' (k := s.size - 1) (by simp; omega)))
    rw [h3] at this; cases this
theorem lettered_bytes {s : ByteArray} (h : letteredB s = true) : ∀ c ∈ s.data.toList, isDigit c.toNat = true ∨ isLetter c.toNat = true := by
  obtain ⟨h1, h2, h3⟩ := lettered_parts h
  intro c hc
  obtain ⟨j, hj, rfl⟩ := List.mem_iff_getElem.1 hc
  have hl : s.data.toList.length = s.size := by simp
  by_cases e : j = s.size - 1
  · right
    rw [List.getD_eq_getElem?_getD, List.getElem?_eq_getElem (by omega)] at h3
    subst e; exact h3
  · left
    refine number_digits h2 _ ?_
    rw [ByteArray.data_extract, Array.toList_extract, List.extract_eq_take_drop]
    simp only [Nat.sub_zero, List.drop_zero]
    exact List.mem_take_iff_getElem.2 ⟨j, by omega, rfl⟩
theorem lettered_name {s : ByteArray} (h : letteredB s = true) : nameB s = true := by
  unfold nameB
  rw [Bool.and_eq_true]
  constructor
  · unfold allB
    rw [List.all_eq_true]
    intro c hc
    unfold isName isFlat
    rcases lettered_bytes h c hc with h' | h' <;> simp [h']
  · obtain ⟨h1, _, h3⟩ := lettered_parts h
    unfold anyB
    rw [List.any_eq_true]
    exact ⟨_, getD_mem' (k := s.size - 1) (by simp; omega), h3⟩
theorem matches_len {l : List UInt8} {ks : List Bool} (h : matchesB l ks = true) : l.length = ks.length := by
  by_cases e : l.length = ks.length
  · exact e
  · rw [matchesB_len l ks e] at h; cases h
theorem matches_flat : ∀ {l : List UInt8} {ks : List Bool}, matchesB l ks = true → ∀ c ∈ l, isFlat c.toNat = true
  | [], [], _ => by simp
  | [], _ :: _, h => by cases h
  | _ :: _, [], h => by cases h
  | c :: l, k :: ks, h => by
    rw [matchesB, Bool.and_eq_true] at h
    intro d hd
    rcases List.mem_cons.1 hd with rfl | hd
    · unfold isFlat
      have := h.1
      unfold kindB at this
      cases k <;> simp at this <;> simp [this]
    · exact matches_flat h.2 d hd
theorem matches_flatB {s : ByteArray} {ks : List Bool} (h : matchesB s.data.toList ks = true) (h1 : 0 < ks.length) (h6 : ks.length ≤ 6) : flatB s = true := by
  have hl := matches_len h
  simp only [Array.length_toList] at hl
  have hs : s.size = ks.length := hl
  unfold flatB
  simp only [Bool.and_eq_true, decide_eq_true_eq]
  exact ⟨⟨by omega, by omega⟩, List.all_eq_true.2 (matches_flat h)⟩
theorem matches_head {l : List UInt8} {k k' : Bool} {ks ks' : List Bool} (h : matchesB l (k :: ks) = true) (h' : matchesB l (k' :: ks') = true) : k = k' := by
  cases l with
  | nil => cases h
  | cons c l =>
    rw [matchesB, Bool.and_eq_true] at h h'
    have a := h.1
    have b := h'.1
    unfold kindB at a b
    cases k <;> cases k' <;> simp at a b <;> try rfl
    · have := digit_not_letter a; rw [b] at this; cases this
    · have := digit_not_letter b; rw [a] at this; cases this
end Go.Proofs.YtenenmlgnifelaaDoor
