/-
  The table of abbreviations as data, and what fold.rows returns.
-/
import Derived.Test.YtdcpmnkebhilpaaGreatDoorB
import Derived.Laws.Tables
import Derived.Laws.Rows
import Derived.Great.BuildSlice
namespace Go.Proofs.YtdcpmnkebhilpaaGreatDoor
open Go.RowKit
def tableL : List (Nat × List UInt8 × List UInt8) := [
  (1, [78, 79, 82, 84, 72], [78]),
  (1, [83, 79, 85, 84, 72], [83]),
  (1, [69, 65, 83, 84], [69]),
  (1, [87, 69, 83, 84], [87]),
  (1, [78, 79, 82, 84, 72, 69, 65, 83, 84], [78, 69]),
  (1, [78, 79, 82, 84, 72, 87, 69, 83, 84], [78, 87]),
  (1, [83, 79, 85, 84, 72, 69, 65, 83, 84], [83, 69]),
  (1, [83, 79, 85, 84, 72, 87, 69, 83, 84], [83, 87]),
  (2, [83, 84, 82, 69, 69, 84], [83, 84]),
  (2, [65, 86, 69, 78, 85, 69], [65, 86, 69]),
  (2, [65, 86, 69, 78, 85, 69], [65, 86]),
  (2, [82, 79, 65, 68], [82, 68]),
  (2, [68, 82, 73, 86, 69], [68, 82]),
  (2, [76, 65, 78, 69], [76, 78]),
  (2, [67, 79, 85, 82, 84], [67, 84]),
  (2, [80, 76, 65, 67, 69], [80, 76]),
  (2, [83, 81, 85, 65, 82, 69], [83, 81]),
  (2, [66, 79, 85, 76, 69, 86, 65, 82, 68], [66, 76, 86, 68]),
  (2, [84, 69, 82, 82, 65, 67, 69], [84, 69, 82]),
  (2, [72, 73, 71, 72, 87, 65, 89], [72, 87, 89]),
  (2, [67, 82, 69, 83, 67, 69, 78, 84], [67, 82, 69, 83]),
  (2, [87, 65, 89], [87, 65, 89]),
  (2, [83, 84, 82, 65, 83, 83, 69], [83, 84, 82]),
  (2, [80, 76, 65, 84, 90], [80, 76]),
  (2, [87, 69, 71], [87, 69, 71]),
  (2, [65, 76, 76, 69, 69], [65, 76]),
  (3, [65, 80, 65, 82, 84, 77, 69, 78, 84], [65, 80, 84]),
  (3, [83, 85, 73, 84, 69], [83, 84, 69]),
  (3, [70, 76, 79, 79, 82], [70, 76]),
  (3, [82, 79, 79, 77], [82, 77]),
  (3, [70, 76, 65, 84], [70, 76]),
  (3, [85, 78, 73, 84], [85, 78, 73, 84]),
  (4, [66, 79, 88], [66, 79, 88]),
  (4, [80, 79, 83, 84, 66, 79, 88], [80, 66]),
  (4, [80, 79, 83, 84, 70, 65, 67, 72], [80, 70]),
  (5, [83, 65, 73, 78, 84], [83, 84]),
  (5, [83, 65, 73, 78, 84, 69], [83, 84, 69]),
  (5, [77, 79, 85, 78, 84], [77, 84]),
  (5, [70, 79, 82, 84], [70, 84]),
  (5, [68, 79, 67, 84, 79, 82], [68, 82])]
def rowCells (r : Nat × List UInt8 × List UInt8) : List Value := [.int .u8 r.1, .string ⟨r.2.1.toArray⟩, .string ⟨r.2.2.toArray⟩]
def rowsC : Array Value := (tableL.flatMap rowCells).toArray
theorem wpList_buildC {P : Program} {ops : Array Oper} {rest : List Oper} {o : Oper} {a : Act} {w : World} {Q : Exit → Act → World → Prop} (hg : o.guard = none) (t : TypeId) (parts : Array (Nat × Operand)) (ho : o.op = .build t parts)
    (cells : Array Value) (hf : P.built t (parts.map fun (i, x) => (i, a.eval x)).toList = some cells)
    (h : wpList P ops Q rest (a.put o.dst (.agg cells)) w) : wpList P ops Q (o :: rest) a w :=
  wpList_build hg t parts ho (by rw [hf]; rfl) (by rw [hf]; exact h)
theorem rowsC_size : rowsC.size = 120 := by kernel_rfl
theorem rowsC_one : rowsC.all (·.oneCell') = true := by kernel_rfl
theorem results_cell1 {fn : Func} {p : Tmp} {ty : TypeId} (h : fn.results = #[.cell p ty]) (tmps : Array Value) (P : Program) (w : World) :
    (results fn tmps).run P w = ((asAddr (tmps.getD p undef)).run P w).andThen fun a w₁ => (loadVar ty a).run P w₁ := by
  simp only [results, h]
  simp [Sem.run_bind, Result.andThen]
theorem below_setRow {B : Nat} {a w : World} (h : Below B a w) {g : Nat} (hg : B ≤ g) (cs : Array Value) : Below B a (w.setRow g cs) :=
  h.trans ⟨rfl, rfl, rfl, by simp, fun k hk => setRow_other _ _ _ _ (by omega)⟩
set_option maxRecDepth 100000 in
set_option maxHeartbeats 4000000 in
theorem rows_any (w : World) : Calls Tryz.prog 78 #[] w fun e w' => e = .returned (.agg rowsC) ∧ Below w.heap.size w w' := by
  go_enter Tryz.func78, Tryz.ntmps78
  have hsz : (Tryz.prog.info? 104).map (·.size) = some rowsC.size := by rw [rowsC_size]; kernel_rfl
  have hold : Tryz.zeroCells104.size = rowsC.size := by rw [rowsC_size]; kernel_rfl
  have HS := Lib.hid hsz
  have HO := Lib.hid hold
  clear hsz hold
  go_wp2_with (first | (with_reducible refine wpList_buildC (o := ⟨some 41, _, _, _, _, _⟩) rfl 104 _ rfl rowsC ?hb ?_) | (with_reducible refine wpList_store_row (o := ⟨none, .store 104 _ _, _, _, _, _⟩) rfl _ _ _ rfl w.heap.size rowsC rfl rfl 104 Tryz.zeroCells104 ?hg HS.out HO.out rowsC_one ?_))
  case hb => kernel_rfl
  case hg => exact (MapKept.heap_alloc w _).1
  refine bodyPost_ret (v := .agg rowsC) ?_ rfl ⟨rfl, ?_⟩
  · rw [results_cell1 Tryz.results78]
    exact run_loadVar_row _ w.heap.size 104 104 rowsC (0, 0) _ (setRow_heap _ _ _ _ _ _ (MapKept.heap_alloc w _).1) Tryz.underlying104 rfl HS.out
  · exact below_setRow ((Below.refl _ w).alloc (Nat.le_refl _) _) (Nat.le_refl _) _
theorem row_at (k : Nat) (hk : k < 40) (w : World) : (Instr.index 104 (.agg rowsC) (.int .i64 k)).run Tryz.prog w = .ok (.agg (rowCells (tableL.getD k (0, [], []))).toArray) w :=
  match k, hk with
  | 0, _ => by as_aux_lemma => kernel_rfl
  | 1, _ => by as_aux_lemma => kernel_rfl
  | 2, _ => by as_aux_lemma => kernel_rfl
  | 3, _ => by as_aux_lemma => kernel_rfl
  | 4, _ => by as_aux_lemma => kernel_rfl
  | 5, _ => by as_aux_lemma => kernel_rfl
  | 6, _ => by as_aux_lemma => kernel_rfl
  | 7, _ => by as_aux_lemma => kernel_rfl
  | 8, _ => by as_aux_lemma => kernel_rfl
  | 9, _ => by as_aux_lemma => kernel_rfl
  | 10, _ => by as_aux_lemma => kernel_rfl
  | 11, _ => by as_aux_lemma => kernel_rfl
  | 12, _ => by as_aux_lemma => kernel_rfl
  | 13, _ => by as_aux_lemma => kernel_rfl
  | 14, _ => by as_aux_lemma => kernel_rfl
  | 15, _ => by as_aux_lemma => kernel_rfl
  | 16, _ => by as_aux_lemma => kernel_rfl
  | 17, _ => by as_aux_lemma => kernel_rfl
  | 18, _ => by as_aux_lemma => kernel_rfl
  | 19, _ => by as_aux_lemma => kernel_rfl
  | 20, _ => by as_aux_lemma => kernel_rfl
  | 21, _ => by as_aux_lemma => kernel_rfl
  | 22, _ => by as_aux_lemma => kernel_rfl
  | 23, _ => by as_aux_lemma => kernel_rfl
  | 24, _ => by as_aux_lemma => kernel_rfl
  | 25, _ => by as_aux_lemma => kernel_rfl
  | 26, _ => by as_aux_lemma => kernel_rfl
  | 27, _ => by as_aux_lemma => kernel_rfl
  | 28, _ => by as_aux_lemma => kernel_rfl
  | 29, _ => by as_aux_lemma => kernel_rfl
  | 30, _ => by as_aux_lemma => kernel_rfl
  | 31, _ => by as_aux_lemma => kernel_rfl
  | 32, _ => by as_aux_lemma => kernel_rfl
  | 33, _ => by as_aux_lemma => kernel_rfl
  | 34, _ => by as_aux_lemma => kernel_rfl
  | 35, _ => by as_aux_lemma => kernel_rfl
  | 36, _ => by as_aux_lemma => kernel_rfl
  | 37, _ => by as_aux_lemma => kernel_rfl
  | 38, _ => by as_aux_lemma => kernel_rfl
  | 39, _ => by as_aux_lemma => kernel_rfl
  | k + 40, h => absurd h (by omega)
theorem row_ok : ∀ r ∈ tableL, 1 ≤ r.1 ∧ r.1 ≤ 5 := by decide
end Go.Proofs.YtdcpmnkebhilpaaGreatDoor
