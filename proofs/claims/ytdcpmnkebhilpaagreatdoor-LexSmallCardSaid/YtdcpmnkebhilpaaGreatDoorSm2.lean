/-
  Contract of letterbaglaw08.Same at the same tokens.
-/
import Derived.Test.YtdcpmnkebhilpaaGreatDoorSm
namespace Go.Proofs.YtdcpmnkebhilpaaGreatDoor
open Go.RowKit
set_option linter.unusedVariables false
theorem toksV_get (ts : List Tok) (k j : Nat) (h : k < ts.length) (hj : j < 4) : (toksV ts)[k * 4 + j]? = (tokV ts[k]).toList[j]? := by
  induction ts generalizing k with
  | nil => simp at h
  | cons t r ih =>
    have hl : (tokV t).toList.length = 4 := rfl
    have e : toksV (t :: r) = (tokV t).toList ++ toksV r := rfl
    rw [e]
    cases k with
    | zero => rw [Nat.zero_mul, Nat.zero_add, List.getElem?_append_left (by omega)]; rfl
    | succ k =>
      rw [List.getElem?_append_right (by rw [hl]; omega), hl, show (k + 1) * 4 + j - 4 = k * 4 + j from by omega]
      exact ih k (by simpa using h)
theorem tok_cell {w : World} {base g cap k : Nat} {ts : List Tok} (ho : w.ownsRow base 50 4 (.slice (some ⟨g, 0, none⟩) ts.length cap) ts.length (toksV ts)) (hk : k < ts.length) :
    w.cell? ⟨g, k * 4, none⟩ = some (.string ts[k].1) ∧ w.cell? ⟨g, k * 4 + 1, none⟩ = some (.int .i64 ts[k].2.1) ∧ w.cell? ⟨g, k * 4 + 2, none⟩ = some (.int .i64 ts[k].2.2) ∧ w.cell? ⟨g, k * 4 + 3, none⟩ = some (.int .u16 (classesB ts[k].1)) := by
  refine ⟨?_, ?_, ?_, ?_⟩
  · rw [ho.cellAt _ (by omega), show k * 4 = k * 4 + 0 from rfl, toksV_get ts k 0 hk (by omega)]; rfl
  · rw [ho.cellAt _ (by omega), toksV_get ts k 1 hk (by omega)]; rfl
  · rw [ho.cellAt _ (by omega), toksV_get ts k 2 hk (by omega)]; rfl
  · rw [ho.cellAt _ (by omega), toksV_get ts k 3 hk (by omega)]; rfl
set_option maxHeartbeats 1000000 in
theorem same_true (ts : List Tok) (ga gb ca cb ba bb : Nat) (w : World) (hl : ts.length ≤ 60000) (hx : w.ownsRow ba 50 4 (.slice (some ⟨ga, 0, none⟩) ts.length ca) ts.length (toksV ts)) (hy : w.ownsRow bb 50 4 (.slice (some ⟨gb, 0, none⟩) ts.length cb) ts.length (toksV ts)) :
    Calls Tryz.prog 32 #[.slice (some ⟨ga, 0, none⟩) ts.length ca, .slice (some ⟨gb, 0, none⟩) ts.length cb] w fun e w' => e = .returned (.bool true) ∧ Below w.heap.size w w' := by
  have hga := (hx.lt ga rfl).2
  have hgb := (hy.lt gb rfl).2
  go_enter Tryz.func32, Tryz.ntmps32
  go_wp2_with fail
  go_loopw [5] (fun i wr => ∃ k : Nat, k ≤ ts.length ∧ i = .int .i64 k ∧ Below w.heap.size w wr) (fun i _ => ts.length - (intOf i).toNat)
  case atStart => exact ⟨0, Nat.zero_le _, rfl, Below.refl _ _⟩
  case round =>
    obtain ⟨k, hk, rfl, hb⟩ := hrel
    by_cases hlt : k < ts.length
    · obtain ⟨a1, a2, a3, a4⟩ := tok_cell (hx.kept (grown_none hb) (Classical.em _)) hlt
      obtain ⟨b1, b2, b3, b4⟩ := tok_cell (hy.kept (grown_none hb) (Classical.em _)) hlt
      generalize ts[k].1 = wd at a1 a4 b1 b4
      generalize ts[k].2.1 = n1 at a2 b2
      generalize ts[k].2.2 = n2 at a3 b3
      generalize classesB wd = n3 at a4 b4
      go_wp2_with fail
      go_region
      go_wp2_with fail
      go_roundw
      case rel => exact ⟨k + 1, by omega, by go_num, hb.drew⟩
      case measure => simp [intOf]; omega
    · go_wp2_with fail
      go_ret
      exact ⟨rfl, hb⟩
end Go.Proofs.YtdcpmnkebhilpaaGreatDoor
