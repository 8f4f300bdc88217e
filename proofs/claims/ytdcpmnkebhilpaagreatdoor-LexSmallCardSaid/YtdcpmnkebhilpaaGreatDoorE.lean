/-
  Contract of fold.Kinds.
-/
import Derived.Test.YtdcpmnkebhilpaaGreatDoorTable
namespace Go.Proofs.YtdcpmnkebhilpaaGreatDoor
open Go.RowKit
def kindsF (l : List UInt8) (acc : Nat) (r : Nat × List UInt8 × List UInt8) : Nat := if r.2.1 = l ∨ r.2.2 = l then acc ||| 2 ^ r.1 else acc
def kindsB (l : List UInt8) : Nat := tableL.foldl (kindsF l) 0
def kindsTo (l : List UInt8) (k : Nat) : Nat := (tableL.take k).foldl (kindsF l) 0
theorem kindsTo_succ (l : List UInt8) (k : Nat) (h : k < 40) : kindsTo l (k + 1) = kindsF l (kindsTo l k) (tableL.getD k (0, [], [])) := by
  unfold kindsTo
  rw [List.take_succ_eq_append_getElem (by exact h), List.foldl_append, List.getD_eq_getElem?_getD, List.getElem?_eq_getElem (by exact h)]
  rfl
theorem kindsF_lt (l : List UInt8) (acc : Nat) (r : Nat × List UInt8 × List UInt8) (ha : acc < 64) (hr : r.1 ≤ 5) : kindsF l acc r < 64 := by
  unfold kindsF
  split
  · exact Nat.or_lt_two_pow (n := 6) ha (Nat.pow_lt_pow_right (by decide) (by omega))
  · exact ha
theorem getD_mem (k : Nat) (h : k < 40) : tableL.getD k (0, [], []) ∈ tableL := by
  rw [List.getD_eq_getElem?_getD, List.getElem?_eq_getElem (by exact h)]
  exact List.getElem_mem _
theorem kindsTo_lt (l : List UInt8) : ∀ k, k ≤ 40 → kindsTo l k < 64
  | 0, _ => by unfold kindsTo; simp
  | k + 1, h => by rw [kindsTo_succ l k (by omega)]; exact kindsF_lt _ _ _ (kindsTo_lt l k (by omega)) (row_ok _ (getD_mem k (by omega))).2
theorem or_u8' : ∀ (a : Fin 64) (d : Fin 6), bits BinOp.or IntKind.u8 ((a.val : Nat) : Int) ((2 : Int) ^ d.val % 256) = ((a.val ||| 2 ^ d.val : Nat) : Int) := by decide +kernel
theorem or_u8 (a d : Nat) (ha : a < 64) (hd : d ≤ 5) : bits BinOp.or IntKind.u8 (a : Int) ((2 : Int) ^ d % 256) = ((a ||| 2 ^ d : Nat) : Int) := or_u8' ⟨a, ha⟩ ⟨d, by omega⟩
theorem int_eq {k : IntKind} {a b : Int} (h : a = b) : Value.int k a = .int k b := by rw [h]
set_option maxRecDepth 100000 in
set_option maxHeartbeats 4000000 in
theorem kinds_any (s : ByteArray) (w : World) : Calls Tryz.prog 42 #[.string s] w fun e w' => e = .returned (.int .u8 (kindsB s.data.toList)) ∧ Below w.heap.size w w' := by
  have hsz : (Tryz.prog.info? 104).map (·.size) = some rowsC.size := by rw [rowsC_size]; kernel_rfl
  have hold : Tryz.zeroCells104.size = rowsC.size := by rw [rowsC_size]; kernel_rfl
  have HS := Lib.hid hsz
  have HO := Lib.hid hold
  clear hsz hold
  go_enter Tryz.func42, Tryz.ntmps42
  go_wp2_with (first
    | (go_at_call 78; refine (rows_any _).mono ?_; rintro e w1 ⟨rfl, hb⟩)
    | (with_reducible refine wpList_store_row (o := ⟨none, .store 104 _ _, _, _, _, _⟩) rfl _ _ _ rfl w1.heap.size rowsC rfl rfl 104 Tryz.zeroCells104 ?hg HS.out HO.out rowsC_one ?_)
    | (with_reducible refine wpList_load_row (o := ⟨_, .load 104 _, _, _, _, _⟩) rfl _ _ rfl w1.heap.size rfl 104 rowsC (0, 0) _ ?hl Tryz.underlying104 rfl HS.out ?_))
  case hg => exact (MapKept.heap_alloc w1 _).1
  case hl => exact setRow_heap _ _ _ _ _ _ (MapKept.heap_alloc w1 _).1
  have hb2 : Below w.heap.size w ((w1.alloc (.cells Tryz.zeroCells104 104)).setRow w1.heap.size rowsC) := below_setRow (hb.alloc hb.size _) hb.size _
  go_loopw [3, 9] (fun t i wr => ∃ k : Nat, k ≤ 40 ∧ i = .int .i64 k ∧ t = .int .u8 (kindsTo s.data.toList k) ∧ Below w.heap.size w wr) (fun _ i _ => 40 - (intOf i).toNat)
  case atStart => exact ⟨0, Nat.zero_le _, rfl, rfl, hb2⟩
  case round =>
    clear hb hb2 HS HO
    obtain ⟨k, hk, rfl, rfl, hbr⟩ := hrel
    by_cases hlt : k < 40
    · have hidx := row_at k hlt
      have hstep := kindsTo_succ s.data.toList k hlt
      have hok := row_ok _ (getD_mem k hlt)
      have hlt64 := kindsTo_lt s.data.toList k hk
      generalize hr : tableL.getD k (0, [], []) = r at hidx hstep hok
      clear hr
      obtain ⟨kd, lg, sh⟩ := r
      simp only [rowCells] at hidx hstep hok
      generalize kindsTo s.data.toList k = acc at hstep hlt64 ⊢
      have HS := Lib.hid hstep
      clear hstep
      go_wp2_with fail
      all_goals
        go_roundw
        case rel => exact ⟨k + 1, by omega, by go_num, int_eq (by
          rw [HS.out]; unfold kindsF; rw [← ByteArray.toList_eq s]
          first
          | rw [if_pos (Or.inl ‹_›)]; exact or_u8 acc kd hlt64 hok.2
          | (rw [if_pos (by simpa using ‹(lg == s.toList) = true ∨ (sh == s.toList) = true›)]; exact or_u8 acc kd hlt64 hok.2)
          | (rw [if_neg (by have := ‹(lg == s.toList) = false ∧ (sh == s.toList) = false›; simpa using this)])), hbr.alloc hbr.size _⟩
        case measure => simp [intOf]; omega
    · go_wp2_with fail
      go_ret
      have e : k = 40 := by omega
      subst e
      exact ⟨rfl, hbr⟩
end Go.Proofs.YtdcpmnkebhilpaaGreatDoor
