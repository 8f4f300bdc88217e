/-
  Contracts of letterbagkit.markText, LentTexts and KeptTexts.
-/
import Derived.Test.YtenenmlgnifelaaDoorBw0
import Derived.Test.YtenenmlgnifelaaDoorNd
import Derived.OwnWalk
import Derived.Deep.DeepCutAuto
import Derived.Deep.RegionWith
namespace Go.Proofs.YtenenmlgnifelaaDoor
open Go.RowKit
set_option linter.unusedVariables false
def markB (j : Nat) : ByteArray := ⟨#[35, 1, 0, 0, 47, UInt8.ofNat j, 0, 0]⟩
theorem mark_conv (w : World) (l : List UInt8) (cs : Array Value) (hcs : cs.toList = l.map fun b => .int .u8 (b.toNat : Int)) (n : Nat) (hn : l.length = n) :
    Sem.run Tryd.prog (convert 37 9 (.slice (some ⟨w.heap.size, 0, none⟩) n n)) (w.alloc (.cells cs 5)) = .ok (.string ⟨l.toArray⟩) (w.alloc (.cells cs 5)) := by
  subst hn
  refine run_convert_bytes_back (P := Tryd.prog) _ 37 9 5 ⟨w.heap.size, 0, none⟩ l.length l Tryd.underlying37 Tryd.underlying5 Tryd.underlying9 (fun j hj => ?_)
  have ea : (⟨w.heap.size, 0, none⟩ : Addr).add j = ⟨w.heap.size, j, none⟩ := by unfold Addr.add; split <;> simp_all
  rw [ea, cell_of_row _ w.heap.size j _ _ _ (World.alloc_heap_new w _)]
  have : cs[j]? = cs.toList[j]? := by simp
  rw [this, hcs, List.getElem?_map, List.getElem?_eq_getElem hj]
  rfl
set_option maxHeartbeats 4000000 in
theorem markText_any (j : Nat) (hj : j < 12) (w : World) : Calls Tryd.prog 33 #[.int .i64 1, .int .i64 j] w fun e w' => e = .returned (.string (markB j)) ∧ Below w.heap.size w w' := by
  have hcase : j = 0 ∨ j = 1 ∨ j = 2 ∨ j = 3 ∨ j = 4 ∨ j = 5 ∨ j = 6 ∨ j = 7 ∨ j = 8 ∨ j = 9 ∨ j = 10 ∨ j = 11 := by omega
  rcases hcase with rfl | rfl | rfl | rfl | rfl | rfl | rfl | rfl | rfl | rfl | rfl | rfl
  · have hk := mark_conv w [35, 1, 0, 0, 47, 0, 0, 0] #[.int .u8 35, .int .u8 1, .int .u8 0, .int .u8 0, .int .u8 47, .int .u8 0, .int .u8 0, .int .u8 0] rfl 8 rfl
    go_enter Tryd.func33, Tryd.ntmps33
    go_wp2_with fail
    go_ret
    exact ⟨rfl, (Below.refl _ w).alloc (Nat.le_refl _) _⟩
  · have hk := mark_conv w [35, 1, 0, 0, 47, 1, 0, 0] #[.int .u8 35, .int .u8 1, .int .u8 0, .int .u8 0, .int .u8 47, .int .u8 1, .int .u8 0, .int .u8 0] rfl 8 rfl
    go_enter Tryd.func33, Tryd.ntmps33
    go_wp2_with fail
    go_ret
    exact ⟨rfl, (Below.refl _ w).alloc (Nat.le_refl _) _⟩
  · have hk := mark_conv w [35, 1, 0, 0, 47, 2, 0, 0] #[.int .u8 35, .int .u8 1, .int .u8 0, .int .u8 0, .int .u8 47, .int .u8 2, .int .u8 0, .int .u8 0] rfl 8 rfl
    go_enter Tryd.func33, Tryd.ntmps33
    go_wp2_with fail
    go_ret
    exact ⟨rfl, (Below.refl _ w).alloc (Nat.le_refl _) _⟩
  · have hk := mark_conv w [35, 1, 0, 0, 47, 3, 0, 0] #[.int .u8 35, .int .u8 1, .int .u8 0, .int .u8 0, .int .u8 47, .int .u8 3, .int .u8 0, .int .u8 0] rfl 8 rfl
    go_enter Tryd.func33, Tryd.ntmps33
    go_wp2_with fail
    go_ret
    exact ⟨rfl, (Below.refl _ w).alloc (Nat.le_refl _) _⟩
  · have hk := mark_conv w [35, 1, 0, 0, 47, 4, 0, 0] #[.int .u8 35, .int .u8 1, .int .u8 0, .int .u8 0, .int .u8 47, .int .u8 4, .int .u8 0, .int .u8 0] rfl 8 rfl
    go_enter Tryd.func33, Tryd.ntmps33
    go_wp2_with fail
    go_ret
    exact ⟨rfl, (Below.refl _ w).alloc (Nat.le_refl _) _⟩
  · have hk := mark_conv w [35, 1, 0, 0, 47, 5, 0, 0] #[.int .u8 35, .int .u8 1, .int .u8 0, .int .u8 0, .int .u8 47, .int .u8 5, .int .u8 0, .int .u8 0] rfl 8 rfl
    go_enter Tryd.func33, Tryd.ntmps33
    go_wp2_with fail
    go_ret
    exact ⟨rfl, (Below.refl _ w).alloc (Nat.le_refl _) _⟩
  · have hk := mark_conv w [35, 1, 0, 0, 47, 6, 0, 0] #[.int .u8 35, .int .u8 1, .int .u8 0, .int .u8 0, .int .u8 47, .int .u8 6, .int .u8 0, .int .u8 0] rfl 8 rfl
    go_enter Tryd.func33, Tryd.ntmps33
    go_wp2_with fail
    go_ret
    exact ⟨rfl, (Below.refl _ w).alloc (Nat.le_refl _) _⟩
  · have hk := mark_conv w [35, 1, 0, 0, 47, 7, 0, 0] #[.int .u8 35, .int .u8 1, .int .u8 0, .int .u8 0, .int .u8 47, .int .u8 7, .int .u8 0, .int .u8 0] rfl 8 rfl
    go_enter Tryd.func33, Tryd.ntmps33
    go_wp2_with fail
    go_ret
    exact ⟨rfl, (Below.refl _ w).alloc (Nat.le_refl _) _⟩
  · have hk := mark_conv w [35, 1, 0, 0, 47, 8, 0, 0] #[.int .u8 35, .int .u8 1, .int .u8 0, .int .u8 0, .int .u8 47, .int .u8 8, .int .u8 0, .int .u8 0] rfl 8 rfl
    go_enter Tryd.func33, Tryd.ntmps33
    go_wp2_with fail
    go_ret
    exact ⟨rfl, (Below.refl _ w).alloc (Nat.le_refl _) _⟩
  · have hk := mark_conv w [35, 1, 0, 0, 47, 9, 0, 0] #[.int .u8 35, .int .u8 1, .int .u8 0, .int .u8 0, .int .u8 47, .int .u8 9, .int .u8 0, .int .u8 0] rfl 8 rfl
    go_enter Tryd.func33, Tryd.ntmps33
    go_wp2_with fail
    go_ret
    exact ⟨rfl, (Below.refl _ w).alloc (Nat.le_refl _) _⟩
  · have hk := mark_conv w [35, 1, 0, 0, 47, 10, 0, 0] #[.int .u8 35, .int .u8 1, .int .u8 0, .int .u8 0, .int .u8 47, .int .u8 10, .int .u8 0, .int .u8 0] rfl 8 rfl
    go_enter Tryd.func33, Tryd.ntmps33
    go_wp2_with fail
    go_ret
    exact ⟨rfl, (Below.refl _ w).alloc (Nat.le_refl _) _⟩
  · have hk := mark_conv w [35, 1, 0, 0, 47, 11, 0, 0] #[.int .u8 35, .int .u8 1, .int .u8 0, .int .u8 0, .int .u8 47, .int .u8 11, .int .u8 0, .int .u8 0] rfl 8 rfl
    go_enter Tryd.func33, Tryd.ntmps33
    go_wp2_with fail
    go_ret
    exact ⟨rfl, (Below.refl _ w).alloc (Nat.le_refl _) _⟩
end Go.Proofs.YtenenmlgnifelaaDoor
