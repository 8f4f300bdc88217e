/-
  Plain laws about the codes of countries.
-/
import Derived.Test.YtdcpmnkebhilpaaGreatDoorLp
import Derived.Lib.Replace
import Derived.Lib.CountLaws
namespace Go.Proofs.YtdcpmnkebhilpaaGreatDoor
set_option linter.unusedVariables false
theorem byte_at_index {l : List UInt8} {i : Nat} {c : UInt8} (h : l[i]? = some c) : l = l.take i ++ c :: l.drop (i + 1) := by
  obtain ⟨hi, he⟩ := List.getElem?_eq_some_iff.1 h
  rw [← he, ← List.drop_eq_getElem_cons hi, List.take_append_drop]
theorem cut_cases (s : ByteArray) : ((cutB s).2.2 = false ∧ (32 : UInt8) ∉ s.data.toList) ∨ ((cutB s).2.2 = true ∧ s.data.toList = (cutB s).1.data.toList ++ 32 :: (cutB s).2.1.data.toList) := by
  unfold cutB
  by_cases hix : Lib.indexByte s.data.toList 32 = -1
  · rw [if_pos hix]
    left
    refine ⟨rfl, fun h => ?_⟩
    obtain ⟨k, hk⟩ := List.mem_iff_getElem?.1 h
    exact Lib.indexByte_none hix k hk
  · rw [if_neg hix]
    right
    refine ⟨rfl, ?_⟩
    obtain ⟨i, hi⟩ : ∃ i : Nat, Lib.indexByte s.data.toList 32 = i := ⟨(Lib.indexByte s.data.toList 32).toNat, by have := Lib.indexByte_ge s.data.toList 32; omega⟩
    rw [hi, Int.toNat_natCast]
    simp only
    rw [ByteArray.data_extract, ByteArray.data_extract, Array.toList_extract, Array.toList_extract, List.extract_eq_take_drop, List.extract_eq_take_drop]
    have e := byte_at_index (Lib.indexByte_some hi).1
    have hl : (s.data.toList.drop (i + 1)).take (s.size - (i + 1)) = s.data.toList.drop (i + 1) := List.take_of_length_le (by simp)
    rw [hl]
    simpa using e
theorem flat_no_blank : isFlat (((32 : UInt8).toNat : Nat) : Int) = false := by decide
theorem matches_no_blank {l : List UInt8} {ks : List Bool} (h : matchesB l ks = true) : (32 : UInt8) ∉ l := fun hm => by
  have := matches_flat h 32 hm
  rw [flat_no_blank] at this; cases this
theorem cut_len {s : ByteArray} (h : (cutB s).2.2 = true) (h1 : hasB (cutB s).1 11 = true) (h2 : hasB (cutB s).2.1 12 = true) : s.size = 7 := by
  rcases cut_cases s with ⟨h', _⟩ | ⟨_, e⟩
  · rw [h] at h'; cases h'
  · have a := matches_len h1
    have b := matches_len h2
    have := congrArg List.length e
    simp at this a b
    omega
end Go.Proofs.YtdcpmnkebhilpaaGreatDoor
