/-
  Where the reference's Lines cuts a text: plain law.
-/
import Derived.Test.YtdcpmnkebhilpaaGreatDoorT7
namespace Go.Proofs.YtdcpmnkebhilpaaGreatDoor
open Go.RowKit Go.Shelf
set_option linter.unusedVariables false
theorem splitGo_last {n : Nat} {r : List UInt8} (h : ∀ k : Nat, r[k]? ≠ some 10) : splitGo n r = [r] := by
  cases n with
  | zero => rfl
  | succ n =>
    unfold splitGo
    by_cases e : Lib.indexByte r 10 = -1
    · rw [if_pos e]
    · obtain ⟨i, hi⟩ : ∃ i : Nat, Lib.indexByte r 10 = i := ⟨(Lib.indexByte r 10).toNat, by have := Lib.indexByte_ge r 10; omega⟩
      exact absurd (Lib.indexByte_some hi).1 (h i)
theorem splitGo_meet {n i : Nat} {r : List UInt8} (hn : r.length ≤ n) (hi : r[i]? = some 10) (h : ∀ k, k < i → r[k]? ≠ some 10) : ∃ m, n = m + 1 ∧ splitGo n r = r.take i :: splitGo m (r.drop (i + 1)) ∧ (r.drop (i + 1)).length ≤ m := by
  have hl : i < r.length := (List.getElem?_eq_some_iff.1 hi).1
  obtain ⟨m, rfl⟩ : ∃ m, n = m + 1 := ⟨n - 1, by omega⟩
  refine ⟨m, rfl, ?_, by rw [List.length_drop]; omega⟩
  by_cases e : Lib.indexByte r 10 = -1
  · exact absurd hi (Lib.indexByte_none e i)
  · obtain ⟨o, ho⟩ : ∃ o : Nat, Lib.indexByte r 10 = o := ⟨(Lib.indexByte r 10).toNat, by have := Lib.indexByte_ge r 10; omega⟩
    obtain ⟨a, b⟩ := Lib.indexByte_some ho
    have : o = i := by
      rcases Nat.lt_trichotomy o i with h1 | h1 | h1
      · exact absurd a (h o h1)
      · exact h1
      · exact absurd hi (b i h1)
    subst this
    conv => lhs; unfold splitGo
    rw [if_neg e, ho]
    rfl
def Met (l : List UInt8) (f k : Nat) (P : List (List UInt8)) : Prop :=
  ∃ n, (l.drop f).length ≤ n ∧ splitGo l.length l = P ++ splitGo n (l.drop f) ∧ f ≤ k ∧ ∀ j, f ≤ j → j < k → l[j]? ≠ some 10
theorem Met.start (l : List UInt8) : Met l 0 0 [] := ⟨l.length, Nat.le_refl _, rfl, Nat.le_refl _, fun j _ h => absurd h (Nat.not_lt_zero _)⟩
theorem Met.next {l : List UInt8} {f k : Nat} {P : List (List UInt8)} (h : Met l f k P) (hk : l[k]? ≠ some 10) : Met l f (k + 1) P := by
  obtain ⟨n, h1, h2, h3, h4⟩ := h
  refine ⟨n, h1, h2, by omega, fun j a b => ?_⟩
  by_cases e : j = k
  · subst e; exact hk
  · exact h4 j a (by omega)
theorem Met.part {l : List UInt8} {f k : Nat} {P : List (List UInt8)} (h : Met l f k P) (hk : l[k]? = some 10) : Met l (k + 1) (k + 1) (P ++ [(l.drop f).take (k - f)]) := by
  obtain ⟨n, h1, h2, h3, h4⟩ := h
  have hd : ∀ j, (l.drop f)[j]? = l[f + j]? := fun j => by rw [List.getElem?_drop]
  obtain ⟨m, rfl, h5, h6⟩ := splitGo_meet (i := k - f) h1 (by rw [hd, show f + (k - f) = k by omega]; exact hk) (fun j hj => by rw [hd]; exact h4 _ (by omega) (by omega))
  have e : (l.drop f).drop (k - f + 1) = l.drop (k + 1) := by rw [List.drop_drop]; congr 1; omega
  rw [e] at h5 h6
  exact ⟨m, h6, by rw [h2, h5, List.append_assoc]; rfl, Nat.le_refl _, fun j a b => by omega⟩
theorem Met.last {l : List UInt8} {f : Nat} {P : List (List UInt8)} (h : Met l f l.length P) : splitGo l.length l = P ++ [l.drop f] := by
  obtain ⟨n, h1, h2, h3, h4⟩ := h
  rw [h2, splitGo_last]
  intro j hj
  rw [List.getElem?_drop] at hj
  exact h4 _ (by omega) (List.getElem?_eq_some_iff.1 hj).1 hj
end Go.Proofs.YtdcpmnkebhilpaaGreatDoor
