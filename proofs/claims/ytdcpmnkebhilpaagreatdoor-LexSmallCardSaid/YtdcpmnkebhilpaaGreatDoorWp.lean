/-
  Plain laws: where the words of a text stand, and where strings.Index finds them.
-/
import Derived.Test.YtdcpmnkebhilpaaGreatDoorW
import Derived.Lib.IndexLaws
namespace Go.Proofs.YtdcpmnkebhilpaaGreatDoor
set_option linter.unusedVariables false
def bt (s : ByteArray) (i : Nat) : UInt8 := s.data.toList.getD i 32
def sStep (s : ByteArray) (st : List (Nat × Nat) × Nat) (i : Nat) : List (Nat × Nat) × Nat :=
  if bt s i = 32 then (if st.2 < i then st.1 ++ [(st.2, i)] else st.1, i + 1) else st
def spansTo (s : ByteArray) : Nat → List (Nat × Nat) × Nat
  | 0 => ([], 0)
  | k + 1 => sStep s (spansTo s k) k
def spans (s : ByteArray) : List (Nat × Nat) := (spansTo s (s.size + 1)).1
def cutOut (s : ByteArray) (p : Nat × Nat) : ByteArray := s.extract p.1 p.2
theorem spansTo_words (s : ByteArray) : ∀ k, wordsTo s k = ((spansTo s k).1.map (cutOut s), (spansTo s k).2)
  | 0 => rfl
  | k + 1 => by
    rw [wordsTo, spansTo, spansTo_words s k]
    unfold wStep sStep bt
    split
    · simp only
      split
      · simp [cutOut]
      · rfl
    · rfl
theorem wordsB_spans (s : ByteArray) : wordsB s = (spans s).map (cutOut s) := by
  unfold wordsB spans; rw [spansTo_words]
def endOf (l : List (Nat × Nat)) (j : Nat) : Nat := if j = 0 then 0 else (l.getD (j - 1) (0, 0)).2
structure SpanAt (s : ByteArray) (l : List (Nat × Nat)) (j : Nat) : Prop where
  le : endOf l j ≤ (l.getD j (0, 0)).1
  lt : (l.getD j (0, 0)).1 < (l.getD j (0, 0)).2
  sz : (l.getD j (0, 0)).2 ≤ s.size
  gap : ∀ i, endOf l j ≤ i → i < (l.getD j (0, 0)).1 → bt s i = 32
  ins : ∀ i, (l.getD j (0, 0)).1 ≤ i → i < (l.getD j (0, 0)).2 → bt s i ≠ 32
structure SpanInv (s : ByteArray) (k : Nat) (st : List (Nat × Nat) × Nat) : Prop where
  each : ∀ j, j < st.1.length → SpanAt s st.1 j
  last : endOf st.1 st.1.length ≤ st.2
  lek : st.2 ≤ k
  gap : ∀ i, endOf st.1 st.1.length ≤ i → i < st.2 → bt s i = 32
  ins : ∀ i, st.2 ≤ i → i < k → bt s i ≠ 32
theorem getD_snoc_lt {α : Type} (l : List α) (x d : α) {j : Nat} (h : j < l.length) : (l ++ [x]).getD j d = l.getD j d := by
  simp [List.getD_eq_getElem?_getD, List.getElem?_append_left h]
theorem getD_snoc_eq {α : Type} (l : List α) (x d : α) : (l ++ [x]).getD l.length d = x := by
  simp [List.getD_eq_getElem?_getD]
theorem endOf_snoc {l : List (Nat × Nat)} (x : Nat × Nat) {j : Nat} (h : j ≤ l.length) : endOf (l ++ [x]) j = endOf l j := by
  unfold endOf
  split
  · rfl
  · rw [getD_snoc_lt _ _ _ (by omega)]
theorem bt_out {s : ByteArray} {i : Nat} (h : bt s i ≠ 32) : i < s.size := by
  rcases Nat.lt_or_ge i s.size with h' | h'
  · exact h'
  · exact absurd (getD_32_out h') h
theorem spanInv (s : ByteArray) : ∀ k, SpanInv s k (spansTo s k)
  | 0 => ⟨fun j h => by simp [spansTo] at h, by simp [spansTo, endOf], by simp [spansTo], fun i h1 h2 => by simp [spansTo] at h2, fun i h1 h2 => by omega⟩
  | k + 1 => by
    have ih := spanInv s k
    rw [spansTo]
    generalize spansTo s k = st at ih
    obtain ⟨l, f⟩ := st
    obtain ⟨h1, h2, h3, h4, h5⟩ := ih
    simp only at h1 h2 h3 h4 h5
    unfold sStep
    simp only
    by_cases hb : bt s k = 32
    · rw [if_pos hb]
      by_cases hf : f < k
      · rw [if_pos hf]
        have hnew : SpanAt s (l ++ [(f, k)]) l.length := by
          refine ⟨?_, ?_, ?_, ?_, ?_⟩
          all_goals rw [getD_snoc_eq]
          · rw [endOf_snoc _ (Nat.le_refl _)]; exact h2
          · exact hf
          · have := bt_out (h5 (k - 1) (by omega) (by omega)); show k ≤ s.size; omega
          · rw [endOf_snoc _ (Nat.le_refl _)]; exact h4
          · exact fun i a b => h5 i a b
        refine ⟨fun j hj => ?_, ?_, Nat.le_refl _, fun i a b => ?_, fun i a b => by omega⟩
        · simp only [List.length_append, List.length_cons, List.length_nil] at hj
          by_cases hjl : j < l.length
          · obtain ⟨a1, a2, a3, a4, a5⟩ := h1 j hjl
            refine ⟨?_, ?_, ?_, ?_, ?_⟩
            all_goals rw [getD_snoc_lt _ _ _ hjl]
            · rw [endOf_snoc _ (by omega)]; exact a1
            · exact a2
            · exact a3
            · rw [endOf_snoc _ (by omega)]; exact a4
            · exact a5
          · obtain rfl : j = l.length := by omega
            exact hnew
        · show endOf (l ++ [(f, k)]) (l ++ [(f, k)]).length ≤ k + 1
          unfold endOf
          simp
        · have e : endOf (l ++ [(f, k)]) (l ++ [(f, k)]).length = k := by unfold endOf; simp
          rw [e] at a
          simp only at b
          obtain rfl : i = k := by omega
          exact hb
      · rw [if_neg hf]
        refine ⟨h1, by show endOf l l.length ≤ k + 1; omega, Nat.le_refl _, fun i a b => ?_, fun i a b => by omega⟩
        simp only at a b
        by_cases hik : i = k
        · subst hik; exact hb
        · by_cases hif : i < f
          · exact h4 i a hif
          · omega
    · rw [if_neg hb]
      refine ⟨h1, h2, by show f ≤ k + 1; omega, h4, fun i a b => ?_⟩
      by_cases hik : i = k
      · subst hik; exact hb
      · exact h5 i a (by omega)
theorem spans_at (s : ByteArray) (j : Nat) (h : j < (spans s).length) : SpanAt s (spans s) j := (spanInv s (s.size + 1)).each j h
theorem cutOut_list (s : ByteArray) (p : Nat × Nat) : (cutOut s p).data.toList = (s.data.toList.drop p.1).take (p.2 - p.1) := by
  unfold cutOut; rw [ByteArray.data_extract, Array.toList_extract, List.extract_eq_take_drop]
theorem bt_get {s : ByteArray} {i : Nat} (h : i < s.size) : s.data.toList[i]? = some (bt s i) := by
  unfold bt; rw [List.getD_eq_getElem?_getD, List.getElem?_eq_getElem (by simpa using h)]; rfl
theorem index_word (s : ByteArray) (j : Nat) (h : j < (spans s).length) :
    Lib.index (s.data.toList.drop (endOf (spans s) j)) (cutOut s ((spans s).getD j (0, 0))).data.toList = (((spans s).getD j (0, 0)).1 - endOf (spans s) j : Nat) := by
  obtain ⟨h1, h2, h3, h4, h5⟩ := spans_at s j h
  generalize (spans s).getD j (0, 0) = p at h1 h2 h3 h4 h5 ⊢
  generalize endOf (spans s) j = e at h1 h4 ⊢
  obtain ⟨a, b⟩ := p
  simp only at h1 h2 h3 h4 h5 ⊢
  rw [cutOut_list]
  simp only
  have hl : s.data.toList.length = s.size := by simp
  refine Lib.index_hit (fun o ho => ?_) (by simp; omega) ?_
  · unfold Lib.occAt
    rw [List.drop_drop]
    have h32 := h4 (e + o) (by omega) (by omega)
    have hne := h5 a (Nat.le_refl _) h2
    rw [List.drop_eq_getElem_cons (by omega : a < s.data.toList.length), show b - a = (b - a - 1) + 1 from by omega, List.take_succ_cons, List.drop_eq_getElem_cons (by omega : e + o < s.data.toList.length)]
    have e1 := bt_get (s := s) (i := a) (by omega)
    have e2 := bt_get (s := s) (i := e + o) (by omega)
    rw [List.getElem?_eq_getElem (by omega)] at e1 e2
    rw [Option.some.inj e1, Option.some.inj e2, h32]
    simp only [List.isPrefixOf, Bool.and_eq_false_iff]
    left
    simpa using hne
  · unfold Lib.occAt
    rw [List.drop_drop, show e + (a - e) = a from by omega]
    exact List.isPrefixOf_iff_prefix.2 (List.take_prefix _ _)
end Go.Proofs.YtdcpmnkebhilpaaGreatDoor
