/-
  What the walk of letterbaglaw08.LexBack needs.
-/
import Derived.Test.YtdcpmnkebhilpaaGreatDoorBp
import Derived.Test.YtdcpmnkebhilpaaGreatDoorAlw
import Derived.Laws.OwnMore
import Derived.Deep.QuietTactic
import Derived.BigQuiet
import Derived.Deep.RegionWith
import Derived.RegionTactic
namespace Go.Proofs.YtdcpmnkebhilpaaGreatDoor
open Go.RowKit
set_option linter.unusedVariables false
theorem ReadsC.of_row {w : World} {v : Value} {base : Nat} {ls : List ByteArray} (ho : w.ownsRow base 9 1 v ls.length (ls.map Value.string)) : ReadsC w v ls := by
  rcases ho.2 with ⟨rfl, hp⟩ | ⟨g, cap, cur, rfl, hb, hg, hnc, _, _, _⟩
  · obtain rfl : ls = [] := List.length_eq_zero_iff.1 hp
    exact ⟨none, 0, rfl, Nat.le_refl _, fun h => absurd h (by simp)⟩
  · exact ⟨_, cap, rfl, hnc, fun _ => ⟨g, 0, rfl, (ho.lt g rfl).2, fun i h => by rw [Nat.zero_add]; exact row_cell ho h⟩⟩
theorem tokens_ev {L : List ByteArray} {T : List Tok} {n : Int} (h : tokensR L = (T, n)) {v : Value} {base : Nat} {m : Int} {W : World} (hls : L.length ≤ 60000) (hsz : ∀ s ∈ L, s.size ≤ maxLen) (h0 : 4 < W.heap.size) (hm : W.cell? ⟨4, 0, none⟩ = some (.int .i64 m))
    (ho : W.ownsRow base 9 1 v L.length (L.map Value.string)) : Calls Tryz.prog 23 #[v] W fun e w' => ∃ u, e = .returned (.tuple #[u, .int .i64 n]) ∧ Below W.heap.size W w' ∧ w'.ownsRow W.heap.size 50 4 u T.length (toksV T) := by
  refine (tokens_any L v base m W hls hsz h0 hm ho).mono ?_
  rintro e w' ⟨u, rfl, hb, hown⟩
  rw [h] at hown ⊢
  exact ⟨u, rfl, hb, hown⟩
theorem tslice_of_row {W : World} {base : Nat} {v : Value} {T : List Tok} (h : W.ownsRow base 50 4 v T.length (toksV T)) : ∃ a cap, v = .slice a T.length cap := by
  rcases Joins.ownsRow_forms h with ⟨rfl, hp⟩ | ⟨g, cap, rfl⟩
  · exact ⟨none, 0, by rw [hp]⟩
  · exact ⟨_, cap, rfl⟩
theorem trow_reads {W : World} {base : Nat} {va : Option Addr} {vc : Nat} {T : List Tok} (h : W.ownsRow base 50 4 (.slice va T.length vc) T.length (toksV T)) (h0 : 0 < T.length) : ∃ g, va = some ⟨g, 0, none⟩ ∧ g < W.heap.size ∧ ∀ k (hk : k < T.length),
    W.cell? ⟨g, k * 4, none⟩ = some (.string T[k].1) ∧ W.cell? ⟨g, k * 4 + 1, none⟩ = some (.int .i64 T[k].2.1) ∧ W.cell? ⟨g, k * 4 + 2, none⟩ = some (.int .i64 T[k].2.2) ∧ W.cell? ⟨g, k * 4 + 3, none⟩ = some (.int .u16 (classesB T[k].1)) := by
  rcases Joins.ownsRow_forms h with ⟨e, hp⟩ | ⟨g, cap, e⟩
  · omega
  · injection e with e1 _ e2
    subst e1 e2
    exact ⟨g, rfl, (h.lt g rfl).2, fun k hk => tok_cell h hk⟩
theorem tokensR_good {L : List ByteArray} (h6 : L.length ≤ 6) (hl : longB L = false) (hn : ∀ b ∈ L, Normal b.data.toList ∧ 0 < b.size) : tokensR L = if 40 < (toksFrom 0 L).length then ([], 5) else (toksFrom 0 L, 0) := by
  unfold tokensR
  have hb : L.any badB = false := by
    rw [List.any_eq_false]
    intro b hb
    have := hn b hb
    unfold badB
    rw [normal_fold this.1, decide_eq_false (by omega : ¬ b.size = 0)]
    simp
  rw [if_neg (by omega), hl, hb]
  rfl
theorem below_drewN {B : Nat} {a W : World} (h : Below B a W) (j : Nat) : Below B a (W.drewN j) := ⟨h.os, h.tape, h.output, h.size, h.block⟩
end Go.Proofs.YtdcpmnkebhilpaaGreatDoor
