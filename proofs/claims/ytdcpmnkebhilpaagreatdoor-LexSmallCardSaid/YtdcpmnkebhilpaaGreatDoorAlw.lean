/-
  The walk of letterbaglaw08.LexAlone.
-/
import Derived.Test.YtdcpmnkebhilpaaGreatDoorAl
namespace Go.Proofs.YtdcpmnkebhilpaaGreatDoor
open Go.RowKit
set_option linter.unusedVariables false
theorem linesR_cases {s : ByteArray} {L : List ByteArray} (h : linesB s = L) : (6 < L.length ∧ linesR s = ([], 5)) ∨ (L.length ≤ 6 ∧ longB L = true ∧ linesR s = ([], 3)) ∨ (L.length ≤ 6 ∧ longB L = false ∧ linesR s = (L, 0)) := by
  unfold linesR
  rw [h]
  by_cases h6 : 6 < L.length
  · left; exact ⟨h6, by rw [if_pos h6]⟩
  · right
    cases hl : longB L
    · right; exact ⟨by omega, rfl, by rw [if_neg h6]; rfl⟩
    · left; exact ⟨by omega, rfl, by rw [if_neg h6]; rfl⟩
theorem lines_ev {s : ByteArray} {R : List ByteArray} {n : Int} (h : linesR s = (R, n)) (hs : s.size ≤ 60000) (W : World) :
    Calls Tryz.prog 25 #[.string s] W fun e w' => ∃ v, e = .returned (.tuple #[v, .int .i64 n]) ∧ Below W.heap.size W w' ∧ w'.ownsRow W.heap.size 9 1 v R.length (R.map Value.string) := by
  have := lines_any s W hs
  rw [h] at this
  exact this
theorem slice_of_row {W : World} {base : Nat} {v : Value} {R : List ByteArray} (h : W.ownsRow base 9 1 v R.length (R.map Value.string)) : ∃ a cap, v = .slice a R.length cap := by
  rcases Joins.ownsRow_forms h with ⟨rfl, hp⟩ | ⟨g, cap, rfl⟩
  · exact ⟨none, 0, by rw [hp]⟩
  · exact ⟨_, cap, rfl⟩
theorem longTo_succ (L : List ByteArray) (k : Nat) (h : k < L.length) : longB (L.take (k + 1)) = (longB (L.take k) || decide (60 < L[k].size)) := by
  unfold longB
  rw [List.take_succ_eq_append_getElem h, List.any_append]
  simp
theorem row_reads {W : World} {base n : Nat} {va : Option Addr} {vc : Nat} {L : List ByteArray} (h : W.ownsRow base 9 1 (.slice va L.length vc) L.length (L.map Value.string)) (h0 : 0 < L.length) : ∃ g off, va = some ⟨g, off, none⟩ ∧ ∀ k (hk : k < L.length), W.cell? ⟨g, off + k, none⟩ = some (.string L[k]) := by
  obtain ⟨a, cap, e, hc⟩ := ReadsT.of_row h
  obtain ⟨g, off, rfl, _, hcc⟩ := hc h0
  injection e with e1
  exact ⟨g, off, e1, hcc⟩
end Go.Proofs.YtdcpmnkebhilpaaGreatDoor
