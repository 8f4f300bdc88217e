/-
  Contracts of package digit at the system Perm: the tables, and the product of values.
-/
import Derived.Test.YtgdlgfplheeblaaGreatDoorK0
import Derived.Test.YtgdlgfplheeblaaGreatDoorTable
import Derived.WalkKit
import Derived.WalkSpells
import Derived.WalkLawsBesides
import Derived.Outline
import Derived.Below
import Derived.OneCell
import Derived.OwnWalk
import Derived.Deep.QuietTactic
import Derived.BigQuiet
import Derived.Lib.Hide
import Derived.RegionTactic
import Derived.ChangeAlike
namespace Go.Proofs.YtgdlgfplheeblaaGreatDoor
open Go.RowKit
set_option linter.unusedVariables false
set_option maxRecDepth 100000
def u8A (l : List Nat) : Array Value := (l.map (fun (n : Nat) => Value.int .u8 (n : Int))).toArray
def timesC : Array Value := u8A timesT.flatten
def turnsC : Array Value := u8A turnsT.flatten
theorem timesC_size : timesC.size = 100 := by kernel_rfl
theorem turnsC_size : turnsC.size = 80 := by kernel_rfl
theorem timesC_one : timesC.all (·.oneCell') = true := by kernel_rfl
theorem turnsC_one : turnsC.all (·.oneCell') = true := by kernel_rfl
theorem timesS : (Tryz.prog.info? 177).map (·.size) = some timesC.size := by rw [timesC_size]; kernel_rfl
theorem turnsS : (Tryz.prog.info? 179).map (·.size) = some turnsC.size := by rw [turnsC_size]; kernel_rfl
theorem timesO : Tryz.zeroCells177.size = timesC.size := by rw [timesC_size]; kernel_rfl
theorem turnsO : Tryz.zeroCells179.size = turnsC.size := by rw [turnsC_size]; kernel_rfl
set_option maxHeartbeats 4000000 in
theorem products_any (w : World) : Calls Tryz.prog 137 #[] w fun e w' => e = .returned (.agg timesC) ∧ Below w.heap.size w w' := by
  have HS := Lib.hid timesS
  have HO := Lib.hid timesO
  go_enter Tryz.func137, Tryz.ntmps137
  go_wp2_with (first | (with_reducible refine wpList_buildC (o := ⟨some 11, _, _, _, _, _⟩) rfl 177 _ rfl timesC ?hb ?_) | (with_reducible refine wpList_store_row (o := ⟨none, .store 177 _ _, _, _, _, _⟩) rfl _ _ _ rfl w.heap.size timesC rfl rfl 177 Tryz.zeroCells177 ?hg HS.out HO.out timesC_one ?_))
  case hb => kernel_rfl
  case hg => exact (MapKept.heap_alloc w _).1
  refine bodyPost_ret (v := .agg timesC) ?_ rfl ⟨rfl, ?_⟩
  · rw [results_cell1 Tryz.results137]
    exact run_loadVar_row _ w.heap.size 177 177 timesC (0, 0) _ (setRow_heap _ _ _ _ _ _ (MapKept.heap_alloc w _).1) Tryz.underlying177 rfl HS.out
  · exact below_setRow ((Below.refl _ w).alloc (Nat.le_refl _) _) (Nat.le_refl _) _
set_option maxHeartbeats 4000000 in
theorem permutations_any (w : World) : Calls Tryz.prog 138 #[] w fun e w' => e = .returned (.agg turnsC) ∧ Below w.heap.size w w' := by
  have HS := Lib.hid turnsS
  have HO := Lib.hid turnsO
  go_enter Tryz.func138, Tryz.ntmps138
  go_wp2_with (first | (with_reducible refine wpList_buildC (o := ⟨some 9, _, _, _, _, _⟩) rfl 179 _ rfl turnsC ?hb ?_) | (with_reducible refine wpList_store_row (o := ⟨none, .store 179 _ _, _, _, _, _⟩) rfl _ _ _ rfl w.heap.size turnsC rfl rfl 179 Tryz.zeroCells179 ?hg HS.out HO.out turnsC_one ?_))
  case hb => kernel_rfl
  case hg => exact (MapKept.heap_alloc w _).1
  refine bodyPost_ret (v := .agg turnsC) ?_ rfl ⟨rfl, ?_⟩
  · rw [results_cell1 Tryz.results138]
    exact run_loadVar_row _ w.heap.size 179 179 turnsC (0, 0) _ (setRow_heap _ _ _ _ _ _ (MapKept.heap_alloc w _).1) Tryz.underlying179 rfl HS.out
  · exact below_setRow ((Below.refl _ w).alloc (Nat.le_refl _) _) (Nat.le_refl _) _
theorem times_cell {a b : Nat} (ha : a < 10) (hb : b < 10) : timesC[a * 10 + b]? = some (.int .u8 (times a b : Nat)) := by
  have h : (List.range 10).all (fun a => (List.range 10).all fun b => decide ((timesT.flatten)[a * 10 + b]? = some (times a b))) = true := by decide +kernel
  have := of_decide_eq_true (ten_all (ten_all h ha) hb)
  unfold timesC u8A
  rw [List.getElem?_toArray, List.getElem?_map, this]
  rfl
theorem turns_cell {a b : Nat} (ha : a < 8) (hb : b < 10) : turnsC[a * 10 + b]? = some (.int .u8 (turns a b : Nat)) := by
  have h : (List.range 8).all (fun a => (List.range 10).all fun b => decide ((turnsT.flatten)[a * 10 + b]? = some (turns a b))) = true := by decide +kernel
  have := of_decide_eq_true (ten_all (List.all_eq_true.1 h a (List.mem_range.2 ha)) hb)
  unfold turnsC u8A
  rw [List.getElem?_toArray, List.getElem?_map, this]
  rfl
/-- A slice reads as values. -/
def RdNats (w : World) (v : Value) (vs : List Nat) : Prop :=
  ∃ a cap, v = .slice a vs.length cap ∧ (0 < vs.length → ∃ g off, a = some ⟨g, off, none⟩ ∧ g < w.heap.size ∧ ∀ i (h : i < vs.length), w.cell? ⟨g, off + i, none⟩ = some (.int .i64 (vs[i] : Nat)))
theorem RdNats.below {w w' : World} {v : Value} {vs : List Nat} (h : RdNats w v vs) (hb : Below w.heap.size w w') : RdNats w' v vs := by
  obtain ⟨a, cap, hv, hc⟩ := h
  exact ⟨a, cap, hv, fun h0 => by
    obtain ⟨g, off, ha, hg, hcc⟩ := hc h0
    exact ⟨g, off, ha, Nat.lt_of_lt_of_le hg hb.size, fun i h => (hb.cell (p := ⟨g, off + i, none⟩) hg).trans (hcc i h)⟩⟩
theorem prod_snoc (vs : List Nat) (k : Nat) (h : k < vs.length) : prodFrom 0 0 (vs.take (k + 1)) = stepP k (prodFrom 0 0 (vs.take k)) vs[k] := by
  rw [List.take_succ_eq_append_getElem h, prod_append]
  have : 0 + (vs.take k).length = k := by simp; omega
  rw [this]
  rfl
/-- The two tables in their blocks. -/
theorem tables_lie (w2 : World) : ∃ W6 B5 B6, ((((w2.alloc (.cells Tryz.zeroCells177 177)).alloc (.cells Tryz.zeroCells179 179)).setRow w2.heap.size timesC).setRow (w2.heap.size + 1) turnsC) = W6 ∧ w2.heap.size = B5 ∧ w2.heap.size + 1 = B6 ∧ Below w2.heap.size w2 W6 ∧ B5 < W6.heap.size ∧ B6 < W6.heap.size ∧
    (∀ a b, a < 10 → b < 10 → W6.cell? ⟨B5, a * 10 + b, none⟩ = some (.int .u8 (times a b : Nat))) ∧ (∀ a b, a < 8 → b < 10 → W6.cell? ⟨B6, a * 10 + b, none⟩ = some (.int .u8 (turns a b : Nat))) := by
  obtain ⟨W1, hW1⟩ : ∃ W1, (w2.alloc (.cells Tryz.zeroCells177 177)).alloc (.cells Tryz.zeroCells179 179) = W1 := ⟨_, rfl⟩
  have b1 : Below w2.heap.size w2 W1 := by rw [← hW1]; exact ((Below.refl _ w2).alloc (Nat.le_refl _) _).alloc (by simp) _
  have h5 : W1.heap[w2.heap.size]? = some (.cells Tryz.zeroCells177 177 (0, 0)) := by
    rw [← hW1]
    have hb : Below (w2.alloc (.cells Tryz.zeroCells177 177)).heap.size (w2.alloc (.cells Tryz.zeroCells177 177)) ((w2.alloc (.cells Tryz.zeroCells177 177)).alloc (.cells Tryz.zeroCells179 179)) := (Below.refl _ _).alloc (Nat.le_refl _) _
    exact (hb.block _ (by simp)).trans (MapKept.heap_alloc w2 _).1
  have h6 : W1.heap[w2.heap.size + 1]? = some (.cells Tryz.zeroCells179 179 (0, 0)) := by
    rw [← hW1]
    have := (MapKept.heap_alloc (w2.alloc (.cells Tryz.zeroCells177 177)) (.cells Tryz.zeroCells179 179)).1
    simpa using this
  rw [hW1]
  have k6 : (W1.setRow w2.heap.size timesC).heap[w2.heap.size + 1]? = some (.cells Tryz.zeroCells179 179 (0, 0)) := (setRow_other _ _ _ _ (by omega)).trans h6
  have k5 := setRow_heap W1 w2.heap.size _ timesC _ _ h5
  have m6 := setRow_heap _ (w2.heap.size + 1) _ turnsC _ _ k6
  have m5 : ((W1.setRow w2.heap.size timesC).setRow (w2.heap.size + 1) turnsC).heap[w2.heap.size]? = some (.cells timesC 177 (0, 0)) := (setRow_other _ _ _ _ (by omega)).trans k5
  refine ⟨_, _, _, rfl, rfl, rfl, below_setRow (below_setRow b1 (Nat.le_refl _) _) (by omega) _, (Array.getElem?_eq_some_iff.1 m5).1, (Array.getElem?_eq_some_iff.1 m6).1, fun a b ha hb => ?_, fun a b ha hb => ?_⟩
  · simp only [World.cell?, m5]
    exact times_cell ha hb
  · simp only [World.cell?, m6]
    exact turns_cell ha hb
end Go.Proofs.YtgdlgfplheeblaaGreatDoor
