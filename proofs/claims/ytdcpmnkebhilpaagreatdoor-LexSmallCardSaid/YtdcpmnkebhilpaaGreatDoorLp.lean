/-
  Plain laws about the classes of a word: which ones exclude each other, and that a word with a class is folded.
-/
import Derived.Test.YtdcpmnkebhilpaaGreatDoorCo
import Derived.Test.YtdcpmnkebhilpaaGreatDoorNu
import Derived.Test.YtdcpmnkebhilpaaGreatDoorFo2
namespace Go.Proofs.YtdcpmnkebhilpaaGreatDoor
set_option linter.unusedVariables false
theorem digit_not_letter {n : Int} (h : isDigit n = true) : isLetter n = false := by unfold isDigit at h; unfold isLetter; simp at h ⊢; omega
theorem number_digits {s : ByteArray} (h : numberB s = true) : ∀ c ∈ s.data.toList, isDigit c.toNat = true := by
  unfold numberB at h
  simp only [Bool.and_eq_true] at h
  exact fun c hc => List.all_eq_true.1 h.2 c hc
theorem lettered_parts {s : ByteArray} (h : letteredB s = true) : 1 < s.size ∧ numberB (s.extract 0 (s.size - 1)) = true ∧ isLetter (s.data.toList.getD (s.size - 1) 0).toNat = true := by
  unfold letteredB at h
  simp only [Bool.and_eq_true, decide_eq_true_eq] at h
  exact ⟨h.1.1, h.1.2, h.2⟩
theorem getD_mem' {l : List UInt8} {k : Nat} (h : k < l.length) : l.getD k 0 ∈ l := by
  rw [List.getD_eq_getElem?_getD, List.getElem?_eq_getElem h]; exact List.getElem_mem h
theorem number_not_lettered {s : ByteArray} (h : numberB s = true) : letteredB s = false := by
  cases hl : letteredB s
  · rfl
  · obtain ⟨h1, _, h3⟩ := lettered_parts hl
    have := digit_not_letter (number_digits h _ (getD_mem' (k := s.size - 1) (by simp; omega)))
    rw [h3] at this; cases this
theorem matches_len {l : List UInt8} {ks : List Bool} (h : matchesB l ks = true) : l.length = ks.length := by
  by_cases e : l.length = ks.length
  · exact e
  · rw [matchesB_len l ks e] at h; cases h
theorem matches_flat : ∀ {l : List UInt8} {ks : List Bool}, matchesB l ks = true → ∀ c ∈ l, isFlat c.toNat = true
  | [], [], _ => by simp
  | [], _ :: _, h => by cases h
  | _ :: _, [], h => by cases h
  | c :: l, k :: ks, h => by
    rw [matchesB, Bool.and_eq_true] at h
    intro d hd
    rcases List.mem_cons.1 hd with rfl | hd
    · unfold isFlat
      have := h.1
      unfold kindB at this
      cases k <;> simp at this <;> simp [this]
    · exact matches_flat h.2 d hd
end Go.Proofs.YtdcpmnkebhilpaaGreatDoor
