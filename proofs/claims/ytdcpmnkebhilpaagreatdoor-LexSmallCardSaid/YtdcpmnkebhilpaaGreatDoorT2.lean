/-
  Contract of the reference's Tokens (letterbagref08).
-/
import Derived.Test.YtdcpmnkebhilpaaGreatDoorT1
import Derived.Test.YtdcpmnkebhilpaaGreatDoorR4
import Derived.Test.YtdcpmnkebhilpaaGreatDoorBw0
import Derived.Deep.RegionWith
namespace Go.Proofs.YtdcpmnkebhilpaaGreatDoor
open Go.RowKit
set_option linter.unusedVariables false
/-! In a folded text no blank stands at the head, at the end, or behind another one. -/
def pend (st : List UInt8 × Bool) : Nat := if st.2 = true ∧ st.1 ≠ [] then 1 else 0
theorem fStep_len (st : List UInt8 × Bool) (c : UInt8) : (fStep st c).1.length + pend (fStep st c) ≤ st.1.length + pend st + 1 := by
  unfold fStep
  split
  · unfold pend; simp only; split <;> split <;> omega
  · unfold pend
    simp only [Bool.false_eq_true, false_and, if_false, List.length_append, List.length_singleton]
    split <;> simp_all
theorem fRun_len (l : List UInt8) : ∀ st : List UInt8 × Bool, (l.foldl fStep st).1.length + pend (l.foldl fStep st) ≤ st.1.length + pend st + l.length := by
  induction l with
  | nil => intro st; simp
  | cons c l ih =>
    intro st
    have h1 := fStep_len st c
    have h2 := ih (fStep st c)
    rw [List.foldl_cons, List.length_cons]
    omega
theorem normal_cut {p r : List UInt8} (h : Normal (p ++ 32 :: r)) : (fRun p).2 = false ∧ (fRun p).1 ≠ [] := by
  have h1 := fRun_len p ([], false)
  have e : fRun (p ++ 32 :: r) = r.foldl fStep (fStep (fRun p) 32) := by unfold fRun; rw [List.foldl_append, List.foldl_cons]
  have h2 := fRun_len r (fStep (fRun p) 32)
  rw [← e, h.1, fStep_blank] at h2
  change (fRun p).1.length + pend (fRun p) ≤ 0 + pend ([], false) + p.length at h1
  have h0 : pend (([] : List UInt8), false) = 0 := rfl
  rw [h0] at h1
  simp only [List.length_append, List.length_cons] at h2
  unfold pend at h1 h2
  constructor
  · cases hb : (fRun p).2
    · rfl
    · rw [hb] at h1
      simp only [true_and] at h1 h2
      split at h1 <;> split at h2 <;> simp_all <;> omega
  · intro h3
    rw [h3] at h2 h1
    simp at h2 h1
    omega
theorem start_lt {s : ByteArray} (hn : Normal s.data.toList) (h0 : 0 < s.size) {k : Nat} (hk : k ≤ s.size) (hb : bt s k = 32) : (spansTo s k).2 < k := by
  have h := winv s k hk
  rw [spansTo_words] at h
  obtain ⟨h1, h2, h3, h4⟩ := h
  simp only at h2 h4
  by_cases hlt : (spansTo s k).2 < k
  · exact hlt
  · rw [if_neg hlt] at h4
    exfalso
    by_cases hks : k < s.size
    · have e : s.data.toList = s.data.toList.take k ++ 32 :: s.data.toList.drop (k + 1) := by
        have hg := bt_get hks
        rw [hb] at hg
        exact byte_at_index hg
      rw [e] at hn
      obtain ⟨a, b⟩ := normal_cut hn
      rw [h4] at a b
      have hk0 : k = 0 := by simpa using a
      subst hk0
      apply b
      show joinB (wl ((spansTo s 0).1.map (cutOut s))) = []
      rfl
    · obtain rfl : k = s.size := by omega
      rw [List.take_of_length_le (by simp)] at h4
      have := hn.1
      rw [h4] at this
      have h5 := (Prod.mk.inj this).2
      rw [decide_eq_true h0] at h5
      cases h5
def lineTo (q : Nat) (s : ByteArray) (k : Nat) : List Tok := (spansTo s k).1.map fun p => (cutOut s p, q, p.1)
theorem lineTo_end (q : Nat) (s : ByteArray) : lineTo q s (s.size + 1) = lineToks q s := rfl
theorem lineTo_blank {q : Nat} {s : ByteArray} {k : Nat} (hb : bt s k = 32) (hlt : (spansTo s k).2 < k) : lineTo q s (k + 1) = lineTo q s k ++ [(s.extract (spansTo s k).2 k, q, (spansTo s k).2)] ∧ (spansTo s (k + 1)).2 = k + 1 := by
  have e : spansTo s (k + 1) = ((spansTo s k).1 ++ [((spansTo s k).2, k)], k + 1) := by
    rw [spansTo]; unfold sStep; rw [if_pos hb, if_pos hlt]
  unfold lineTo
  rw [e]
  refine ⟨?_, rfl⟩
  simp [cutOut]
theorem lineTo_byte {q : Nat} {s : ByteArray} {k : Nat} (hb : bt s k ≠ 32) : lineTo q s (k + 1) = lineTo q s k ∧ (spansTo s (k + 1)).2 = (spansTo s k).2 := by
  have e : spansTo s (k + 1) = spansTo s k := by rw [spansTo]; unfold sStep; rw [if_neg hb]
  unfold lineTo
  rw [e]
  exact ⟨rfl, rfl⟩
end Go.Proofs.YtdcpmnkebhilpaaGreatDoor
