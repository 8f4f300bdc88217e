/-
  Contracts of the reference's Table, of and Kinds (letterbagref05).
-/
import Derived.Test.YtdcpmnkebhilpaaGreatDoorR1
import Derived.Test.YtdcpmnkebhilpaaGreatDoorSm
namespace Go.Proofs.YtdcpmnkebhilpaaGreatDoor
open Go.RowKit
set_option linter.unusedVariables false
def ofB (l : List UInt8) (k : Nat) (r : Nat × List UInt8 × List UInt8) : Bool := decide (r.1 = k) && (decide (l = r.2.1) || decide (l = r.2.2))
def sumTo (f : Nat → Bool) : Nat → Nat
  | 0 => 0
  | k + 1 => sumTo f k + if f k then 2 ^ k else 0
theorem sumTo_lt (f : Nat → Bool) : ∀ k, sumTo f k < 2 ^ k
  | 0 => by simp [sumTo]
  | k + 1 => by
    have := sumTo_lt f k
    rw [sumTo, Nat.pow_succ]
    split <;> omega
theorem sumTo_bit (f : Nat → Bool) : ∀ n k, (sumTo f n).testBit k = (decide (k < n) && f k)
  | 0, k => by simp [sumTo]
  | n + 1, k => by
    rw [sumTo]
    have hlt := sumTo_lt f n
    have ih := sumTo_bit f n k
    by_cases hk : k = n
    · subst hk
      have h0 : (sumTo f k).testBit k = false := Nat.testBit_lt_two_pow hlt
      cases hh : f k
      · simp [h0]
      · rw [if_pos rfl, Nat.add_comm, Nat.testBit_two_pow_add_eq, h0]; simp
    · by_cases hk2 : k < n
      · cases hh : f n
        · simp only [Bool.false_eq_true, if_false, Nat.add_zero, ih]
          rw [decide_eq_true hk2, decide_eq_true (by omega : k < n + 1)]
        · rw [if_pos rfl, Nat.add_comm, Nat.testBit_two_pow_add_gt hk2, ih, decide_eq_true hk2, decide_eq_true (by omega : k < n + 1)]
      · have h1 : (sumTo f n + if f n = true then 2 ^ n else 0) < 2 ^ k := by
          have : 2 ^ (n + 1) ≤ 2 ^ k := Nat.pow_le_pow_right (by decide) (by omega)
          rw [Nat.pow_succ] at this
          split <;> omega
        rw [Nat.testBit_lt_two_pow h1, decide_eq_false (by omega : ¬ k < n + 1)]
        rfl
def anyK (l : List UInt8) (k : Nat) : Bool := tableL.any (ofB l k)
theorem foldl_bit (l : List UInt8) (j : Nat) : ∀ (T : List (Nat × List UInt8 × List UInt8)) (acc : Nat), (T.foldl (kindsF l) acc).testBit j = (acc.testBit j || T.any (ofB l j))
  | [], acc => by simp
  | r :: T, acc => by
    rw [List.foldl_cons, foldl_bit l j T, List.any_cons]
    unfold kindsF ofB
    by_cases h : r.2.1 = l ∨ r.2.2 = l
    · have h' : (decide (l = r.2.1) || decide (l = r.2.2)) = true := by
        rw [Bool.or_eq_true, decide_eq_true_eq, decide_eq_true_eq]
        exact h.imp Eq.symm Eq.symm
      rw [if_pos h, Nat.testBit_or, Nat.testBit_two_pow, h', Bool.and_true, Bool.or_assoc]
    · have h' : (decide (l = r.2.1) || decide (l = r.2.2)) = false := by
        rw [Bool.or_eq_false_iff, decide_eq_false_iff_not, decide_eq_false_iff_not]
        exact ⟨fun e => h (.inl e.symm), fun e => h (.inr e.symm)⟩
      rw [if_neg h, h', Bool.and_false, Bool.false_or]
theorem kinds_sum (l : List UInt8) : sumTo (anyK l) 6 = kindsB l := by
  apply Nat.eq_of_testBit_eq
  intro i
  rw [sumTo_bit]
  unfold kindsB
  rw [foldl_bit, Nat.zero_testBit, Bool.false_or]
  by_cases h : i < 6
  · rw [decide_eq_true h, Bool.true_and]; rfl
  · rw [decide_eq_false h, Bool.false_and]
    symm
    rw [List.any_eq_false]
    intro r hr
    have := row_ok r hr
    unfold ofB
    rw [decide_eq_false (by omega : ¬ r.1 = i)]
    simp
theorem anyK_zero (l : List UInt8) : anyK l 0 = false := by
  unfold anyK
  rw [List.any_eq_false]
  intro r hr
  have := row_ok r hr
  unfold ofB
  rw [decide_eq_false (by omega : ¬ r.1 = 0)]
  simp
def anyTo (l : List UInt8) (k i : Nat) : Bool := (tableL.take i).any (ofB l k)
theorem anyTo_succ (l : List UInt8) (k i : Nat) (h : i < 40) : anyTo l k (i + 1) = (anyTo l k i || ofB l k (tableL.getD i (0, [], []))) := by
  unfold anyTo
  rw [List.take_succ_eq_append_getElem (by exact h), List.any_append, List.getD_eq_getElem?_getD, List.getElem?_eq_getElem (by exact h)]
  simp
set_option maxRecDepth 100000 in
theorem run_table (w : World) : Sem.run Tryz.prog (Instr.buildSlice 107 40 #[(0, Value.agg #[Value.int IntKind.u8 1, Value.string { data := #[78, 79, 82, 84, 72] }, Value.string { data := #[78] }]), (1, Value.agg #[Value.int IntKind.u8 1, Value.string { data := #[83, 79, 85, 84, 72] }, Value.string { data := #[83] }]), (2, Value.agg #[Value.int IntKind.u8 1, Value.string { data := #[69, 65, 83, 84] }, Value.string { data := #[69] }]), (3, Value.agg #[Value.int IntKind.u8 1, Value.string { data := #[87, 69, 83, 84] }, Value.string { data := #[87] }]), (4, Value.agg #[Value.int IntKind.u8 1, Value.string { data := #[78, 79, 82, 84, 72, 69, 65, 83, 84] }, Value.string { data := #[78, 69] }]), (5, Value.agg #[Value.int IntKind.u8 1, Value.string { data := #[78, 79, 82, 84, 72, 87, 69, 83, 84] }, Value.string { data := #[78, 87] }]), (6, Value.agg #[Value.int IntKind.u8 1, Value.string { data := #[83, 79, 85, 84, 72, 69, 65, 83, 84] }, Value.string { data := #[83, 69] }]), (7, Value.agg #[Value.int IntKind.u8 1, Value.string { data := #[83, 79, 85, 84, 72, 87, 69, 83, 84] }, Value.string { data := #[83, 87] }]), (8, Value.agg #[Value.int IntKind.u8 2, Value.string { data := #[83, 84, 82, 69, 69, 84] }, Value.string { data := #[83, 84] }]), (9, Value.agg #[Value.int IntKind.u8 2, Value.string { data := #[65, 86, 69, 78, 85, 69] }, Value.string { data := #[65, 86, 69] }]), (10, Value.agg #[Value.int IntKind.u8 2, Value.string { data := #[65, 86, 69, 78, 85, 69] }, Value.string { data := #[65, 86] }]), (11, Value.agg #[Value.int IntKind.u8 2, Value.string { data := #[82, 79, 65, 68] }, Value.string { data := #[82, 68] }]), (12, Value.agg #[Value.int IntKind.u8 2, Value.string { data := #[68, 82, 73, 86, 69] }, Value.string { data := #[68, 82] }]), (13, Value.agg #[Value.int IntKind.u8 2, Value.string { data := #[76, 65, 78, 69] }, Value.string { data := #[76, 78] }]), (14, Value.agg #[Value.int IntKind.u8 2, Value.string { data := #[67, 79, 85, 82, 84] }, Value.string { data := #[67, 84] }]), (15, Value.agg #[Value.int IntKind.u8 2, Value.string { data := #[80, 76, 65, 67, 69] }, Value.string { data := #[80, 76] }]), (16, Value.agg #[Value.int IntKind.u8 2, Value.string { data := #[83, 81, 85, 65, 82, 69] }, Value.string { data := #[83, 81] }]), (17, Value.agg #[Value.int IntKind.u8 2, Value.string { data := #[66, 79, 85, 76, 69, 86, 65, 82, 68] }, Value.string { data := #[66, 76, 86, 68] }]), (18, Value.agg #[Value.int IntKind.u8 2, Value.string { data := #[84, 69, 82, 82, 65, 67, 69] }, Value.string { data := #[84, 69, 82] }]), (19, Value.agg #[Value.int IntKind.u8 2, Value.string { data := #[72, 73, 71, 72, 87, 65, 89] }, Value.string { data := #[72, 87, 89] }]), (20, Value.agg #[Value.int IntKind.u8 2, Value.string { data := #[67, 82, 69, 83, 67, 69, 78, 84] }, Value.string { data := #[67, 82, 69, 83] }]), (21, Value.agg #[Value.int IntKind.u8 2, Value.string { data := #[87, 65, 89] }, Value.string { data := #[87, 65, 89] }]), (22, Value.agg #[Value.int IntKind.u8 2, Value.string { data := #[83, 84, 82, 65, 83, 83, 69] }, Value.string { data := #[83, 84, 82] }]), (23, Value.agg #[Value.int IntKind.u8 2, Value.string { data := #[80, 76, 65, 84, 90] }, Value.string { data := #[80, 76] }]), (24, Value.agg #[Value.int IntKind.u8 2, Value.string { data := #[87, 69, 71] }, Value.string { data := #[87, 69, 71] }]), (25, Value.agg #[Value.int IntKind.u8 2, Value.string { data := #[65, 76, 76, 69, 69] }, Value.string { data := #[65, 76] }]), (26, Value.agg #[Value.int IntKind.u8 3, Value.string { data := #[65, 80, 65, 82, 84, 77, 69, 78, 84] }, Value.string { data := #[65, 80, 84] }]), (27, Value.agg #[Value.int IntKind.u8 3, Value.string { data := #[83, 85, 73, 84, 69] }, Value.string { data := #[83, 84, 69] }]), (28, Value.agg #[Value.int IntKind.u8 3, Value.string { data := #[70, 76, 79, 79, 82] }, Value.string { data := #[70, 76] }]), (29, Value.agg #[Value.int IntKind.u8 3, Value.string { data := #[82, 79, 79, 77] }, Value.string { data := #[82, 77] }]), (30, Value.agg #[Value.int IntKind.u8 3, Value.string { data := #[70, 76, 65, 84] }, Value.string { data := #[70, 76] }]), (31, Value.agg #[Value.int IntKind.u8 3, Value.string { data := #[85, 78, 73, 84] }, Value.string { data := #[85, 78, 73, 84] }]), (32, Value.agg #[Value.int IntKind.u8 4, Value.string { data := #[66, 79, 88] }, Value.string { data := #[66, 79, 88] }]), (33, Value.agg #[Value.int IntKind.u8 4, Value.string { data := #[80, 79, 83, 84, 66, 79, 88] }, Value.string { data := #[80, 66] }]), (34, Value.agg #[Value.int IntKind.u8 4, Value.string { data := #[80, 79, 83, 84, 70, 65, 67, 72] }, Value.string { data := #[80, 70] }]), (35, Value.agg #[Value.int IntKind.u8 5, Value.string { data := #[83, 65, 73, 78, 84] }, Value.string { data := #[83, 84] }]), (36, Value.agg #[Value.int IntKind.u8 5, Value.string { data := #[83, 65, 73, 78, 84, 69] }, Value.string { data := #[83, 84, 69] }]), (37, Value.agg #[Value.int IntKind.u8 5, Value.string { data := #[77, 79, 85, 78, 84] }, Value.string { data := #[77, 84] }]), (38, Value.agg #[Value.int IntKind.u8 5, Value.string { data := #[70, 79, 82, 84] }, Value.string { data := #[70, 84] }]), (39, Value.agg #[Value.int IntKind.u8 5, Value.string { data := #[68, 79, 67, 84, 79, 82] }, Value.string { data := #[68, 82] }])]) w = .ok (.slice (some ⟨w.heap.size, 0, none⟩) 40 40) (w.alloc (.cells rowsC 110)) := by
  kernel_rfl
set_option maxRecDepth 100000 in
set_option maxHeartbeats 4000000 in
theorem refTable_any (w : World) : Calls Tryz.prog 80 #[] w fun e w' => e = .returned (.slice (some ⟨w.heap.size, 0, none⟩) 40 40) ∧ w.alloc (.cells rowsC 110) = w' := by
  have ht := run_table w
  go_enter Tryz.func80, Tryz.ntmps80
  go_wp2_with fail
  go_ret
  exact ⟨rfl, rfl⟩
theorem of_any (kd k : Nat) (lg sh s : ByteArray) (w : World) (hk : 1 ≤ k) (hk5 : k ≤ 5) (hd5 : kd ≤ 5) :
    Calls Tryz.prog 81 #[.agg #[.int .u8 kd, .string lg, .string sh], .int .u8 k, .string s] w fun e w' => e = .returned (.bool (decide (kd = k) && (decide (s = lg) || decide (s = sh)))) ∧ Below w.heap.size w w' := by
  have h0 : ((k : Int) == 0) = false := by simp; omega
  have q1 := ba_eq s lg
  have q2 := ba_eq s sh
  by_cases h1 : kd = k
  · have e1 : ((kd : Int) == (k : Int)) = true := by simp [h1]
    rw [decide_eq_true h1]
    have HH := Lib.hid h1
    clear h1
    generalize decide (s = lg) = b1 at q1 ⊢
    generalize decide (s = sh) = b2 at q2 ⊢
    cases b1 <;> cases b2
    all_goals
      go_enter Tryz.func81, Tryz.ntmps81
      go_wp2_with fail
      go_ret
      exact ⟨rfl, (Below.refl _ w).alloc (Nat.le_refl _) _⟩
  · have e1 : ((kd : Int) == (k : Int)) = false := by simp; omega
    rw [decide_eq_false h1]
    go_enter Tryz.func81, Tryz.ntmps81
    go_wp2_with fail
    go_ret
    exact ⟨rfl, (Below.refl _ w).alloc (Nat.le_refl _) _⟩
end Go.Proofs.YtdcpmnkebhilpaaGreatDoor
