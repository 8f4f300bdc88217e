/-
  Contract of the reference's Kinds (letterbagref05).
-/
import Derived.Test.YtdcpmnkebhilpaaGreatDoorR2
namespace Go.Proofs.YtdcpmnkebhilpaaGreatDoor
open Go.RowKit
set_option linter.unusedVariables false
theorem flat3 (T : List (Nat × List UInt8 × List UInt8)) (k j : Nat) (h : k < T.length) (hj : j < 3) : (T.flatMap rowCells)[k * 3 + j]? = (rowCells T[k])[j]? := by
  induction T generalizing k with
  | nil => simp at h
  | cons t r ih =>
    have hl : (rowCells t).length = 3 := rfl
    have e : (t :: r).flatMap rowCells = rowCells t ++ r.flatMap rowCells := rfl
    rw [e]
    cases k with
    | zero => rw [Nat.zero_mul, Nat.zero_add, List.getElem?_append_left (by omega)]; rfl
    | succ k =>
      rw [List.getElem?_append_right (by rw [hl]; omega), hl, show (k + 1) * 3 + j - 3 = k * 3 + j from by omega]
      exact ih k (by simpa using h)
theorem row_cells {W : World} {B k : Nat} {T : TypeId} (h : W.heap[B]? = some (.cells rowsC T (0, 0))) (hk : k < 40) :
    W.cell? ⟨B, k * 3, none⟩ = some (.int .u8 (tableL.getD k (0, [], [])).1) ∧ W.cell? ⟨B, k * 3 + 1, none⟩ = some (.string ⟨(tableL.getD k (0, [], [])).2.1.toArray⟩) ∧ W.cell? ⟨B, k * 3 + 2, none⟩ = some (.string ⟨(tableL.getD k (0, [], [])).2.2.toArray⟩) := by
  have e : tableL.getD k (0, [], []) = tableL[k]'hk := by rw [List.getD_eq_getElem?_getD, List.getElem?_eq_getElem (by exact hk)]; rfl
  have hc : ∀ j, W.cell? ⟨B, j, none⟩ = rowsC[j]? := fun j => cell_of_row W _ j _ _ _ h
  have hg : ∀ j, rowsC[j]? = (tableL.flatMap rowCells)[j]? := fun j => by unfold rowsC; rw [List.getElem?_toArray]
  rw [e, hc, hc, hc, hg, hg, hg]
  refine ⟨?_, ?_, ?_⟩
  · rw [show k * 3 = k * 3 + 0 from rfl, flat3 tableL k 0 hk (by decide)]; rfl
  · rw [flat3 tableL k 1 hk (by decide)]; rfl
  · rw [flat3 tableL k 2 hk (by decide)]; rfl
theorem ofB_eq (s : ByteArray) (k : Nat) (r : Nat × List UInt8 × List UInt8) : (decide (r.1 = k) && (decide (s = (⟨r.2.1.toArray⟩ : ByteArray)) || decide (s = (⟨r.2.2.toArray⟩ : ByteArray)))) = ofB s.data.toList k r := by
  have h : ∀ l : List UInt8, decide (s = (⟨l.toArray⟩ : ByteArray)) = decide (s.data.toList = l) := fun l => by
    rw [Bool.eq_iff_iff, decide_eq_true_eq, decide_eq_true_eq]
    exact ⟨fun e => by rw [e], fun e => WideShapes.bytes_inj e⟩
  unfold ofB
  rw [h, h]
set_option maxHeartbeats 4000000 in
theorem refKinds_any (s : ByteArray) (w : World) : Calls Tryz.prog 58 #[.string s] w fun e w' => e = .returned (.int .u8 (kindsB s.data.toList)) ∧ Below w.heap.size w w' := by
  go_enter Tryz.func58, Tryz.ntmps58
  go_wp2_with (go_at_call 80; refine (refTable_any _).mono ?_; rintro e w1 ⟨rfl, rfl⟩)
  go_loopw [4, 5, 6] (fun sm pw kk wr => ∃ k : Nat, 1 ≤ k ∧ k ≤ 6 ∧ kk = .int .u8 k ∧ pw = .int .u8 ((2 ^ k : Nat) : Int) ∧ sm = .int .u8 (sumTo (anyK s.data.toList) k) ∧ Below w.heap.size w wr ∧ wr.heap[w.heap.size]? = some (.cells rowsC 110 (0, 0))) (fun _ _ kk _ => 6 - (intOf kk).toNat)
  case atStart => exact ⟨1, by decide, by decide, rfl, rfl, int_eq (by unfold sumTo; rw [anyK_zero]; rfl), (Below.refl _ w).alloc (Nat.le_refl _) _, World.alloc_heap_new w _⟩
  case round =>
    obtain ⟨k, hk1, hk6, rfl, rfl, rfl, hB, hblk⟩ := hrel
    by_cases hlt : k = 6
    · subst hlt
      rw [kinds_sum]
      go_wp2_with fail
      go_ret
      exact ⟨rfl, hB⟩
    · have hk5 : k ≤ 5 := by omega
      have hst : sumTo (anyK s.data.toList) (k + 1) = sumTo (anyK s.data.toList) k + if anyK s.data.toList k then 2 ^ k else 0 := rfl
      have hlt2 := sumTo_lt (anyK s.data.toList) k
      have hp : 2 ^ (k + 1) = 2 * 2 ^ k := by rw [Nat.pow_succ, Nat.mul_comm]
      have hp5 : 2 ^ k ≤ 32 := Nat.pow_le_pow_right (by decide) hk5 (n := 2)
      have hany : anyTo s.data.toList k 40 = anyK s.data.toList k := rfl
      have HA := Lib.hid hany
      have HS := Lib.hid hst
      have HP := Lib.hid hp
      have hd5 : decide ((k : Int) ≤ 5) = true := by simp; omega
      clear hst hp hany hlt
      generalize hsm : sumTo (anyK s.data.toList) k = sm at HS hlt2 ⊢
      generalize hpw : 2 ^ k = pw at HS HP hlt2 hp5 ⊢
      clear hsm hpw
      go_wp2_with fail
      obtain ⟨wo, hwo⟩ : ∃ wo : World, wo = wr := ⟨_, rfl⟩
      subst hwo
      go_loopw [7, 8] (fun hh i wi => ∃ j : Nat, j ≤ 40 ∧ i = .int .i64 j ∧ hh = .bool (anyTo s.data.toList k j) ∧ Below w.heap.size w wi ∧ wi.heap[w.heap.size]? = some (.cells rowsC 110 (0, 0))) (fun _ i _ => 40 - (intOf i).toNat)
      case atStart => exact ⟨0, Nat.zero_le _, rfl, rfl, hB, hblk⟩
      case round =>
        clear hB hblk
        obtain ⟨j, hj, rfl, rfl, hB, hblk⟩ := hrel
        have hbl := (Array.getElem?_eq_some_iff.1 hblk).1
        by_cases hj40 : j < 40
        · have hsu := anyTo_succ s.data.toList k j hj40
          obtain ⟨c1, c2, c3⟩ := row_cells hblk hj40
          have hok := row_ok _ (getD_mem j hj40)
          generalize tableL.getD j (0, [], []) = r at hsu c1 c2 c3 hok
          obtain ⟨kd, lg, sh⟩ := r
          simp only at c1 c2 c3 hok
          have hof := ofB_eq s k (kd, lg, sh)
          generalize ofB s.data.toList k (kd, lg, sh) = ob at hsu hof
          have hcall := fun W => of_any kd k ⟨lg.toArray⟩ ⟨sh.toArray⟩ s W hk1 hk5 hok.2
          simp only at hof
          rw [hof] at hcall
          have HC := Lib.hid hcall
          have HSU := Lib.hid hsu
          clear hof hcall hsu
          cases hat : anyTo s.data.toList k j
          all_goals
            rw [hat] at HSU
            clear hat
            go_wp2_with (go_at_call 81; refine (HC.out _).mono ?_; rintro e w5 ⟨rfl, hb5⟩; replace hblk := (hb5.block _ hbl).trans hblk; replace hB := hB.trans (hb5.mono hB.size); clear hb5)
            go_roundw
            case rel => exact ⟨j + 1, by omega, by go_num, congrArg Value.bool (by rw [HSU.out]; simp), hB, hblk⟩
            case measure => simp [intOf]; omega
        · obtain rfl : j = 40 := by omega
          rw [HA.out]
          cases hak : anyK s.data.toList k
          all_goals
            rw [hak] at HS
            clear HA hak
            go_wp2_with fail
            go_roundw
            case rel => exact ⟨k + 1, by omega, by omega, by go_num, int_eq (by rw [HP.out]; push_cast; rfl), int_eq (by rw [HS.out]; simp), hB, hblk⟩
            case measure => simp [intOf]; omega
end Go.Proofs.YtdcpmnkebhilpaaGreatDoor
