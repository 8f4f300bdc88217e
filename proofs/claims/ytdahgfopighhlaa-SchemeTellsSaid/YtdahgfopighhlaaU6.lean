/-
  The kit's marks, LentLabels, LentLevel.
-/
import Derived.Test.YtdahgfopighhlaaU5
import Derived.Test.YtdahgfopighhlaaSM
namespace Go.Proofs.Ytdahgfopighhlaa
open Go.RowKit Go.Sort
set_option linter.unusedVariables false
set_option maxRecDepth 100000
def markB (j : Nat) : ByteArray := ⟨#[35, 1, 0, 0, 47, UInt8.ofNat j, 0, 0]⟩
theorem mark_conv (w : World) (l : List UInt8) (cs : Array Value) (hcs : cs.toList = l.map fun b => .int .u8 (b.toNat : Int)) (n : Nat) (hn : l.length = n) :
    Sem.run Try.prog (convert 23 9 (.slice (some ⟨w.heap.size, 0, none⟩) n n)) (w.alloc (.cells cs 5)) = .ok (.string ⟨l.toArray⟩) (w.alloc (.cells cs 5)) := by
  subst hn
  refine run_convert_bytes_back (P := Try.prog) _ 23 9 5 ⟨w.heap.size, 0, none⟩ l.length l Try.underlying23 Try.underlying5 Try.underlying9 (fun j hj => ?_)
  have ea : (⟨w.heap.size, 0, none⟩ : Addr).add j = ⟨w.heap.size, j, none⟩ := by unfold Addr.add; split <;> simp_all
  rw [ea, cell_of_row _ w.heap.size j _ _ _ (World.alloc_heap_new w _)]
  have : cs[j]? = cs.toList[j]? := by simp
  rw [this, hcs, List.getElem?_map, List.getElem?_eq_getElem hj]
  rfl
set_option maxHeartbeats 4000000 in
theorem markText_any (j : Nat) (hj : j < 12) (w : World) : Calls Try.prog 89 #[.int .i64 1, .int .i64 j] w fun e w' => e = .returned (.string (markB j)) ∧ Below w.heap.size w w' := by
  have hcase : j = 0 ∨ j = 1 ∨ j = 2 ∨ j = 3 ∨ j = 4 ∨ j = 5 ∨ j = 6 ∨ j = 7 ∨ j = 8 ∨ j = 9 ∨ j = 10 ∨ j = 11 := by omega
  rcases hcase with rfl | rfl | rfl | rfl | rfl | rfl | rfl | rfl | rfl | rfl | rfl | rfl
  · have hk := mark_conv w [35, 1, 0, 0, 47, 0, 0, 0] #[.int .u8 35, .int .u8 1, .int .u8 0, .int .u8 0, .int .u8 47, .int .u8 0, .int .u8 0, .int .u8 0] rfl 8 rfl
    go_enter Try.func89, Try.ntmps89
    go_wp2_with fail
    go_ret
    exact ⟨rfl, (Below.refl _ w).alloc (Nat.le_refl _) _⟩
  · have hk := mark_conv w [35, 1, 0, 0, 47, 1, 0, 0] #[.int .u8 35, .int .u8 1, .int .u8 0, .int .u8 0, .int .u8 47, .int .u8 1, .int .u8 0, .int .u8 0] rfl 8 rfl
    go_enter Try.func89, Try.ntmps89
    go_wp2_with fail
    go_ret
    exact ⟨rfl, (Below.refl _ w).alloc (Nat.le_refl _) _⟩
  · have hk := mark_conv w [35, 1, 0, 0, 47, 2, 0, 0] #[.int .u8 35, .int .u8 1, .int .u8 0, .int .u8 0, .int .u8 47, .int .u8 2, .int .u8 0, .int .u8 0] rfl 8 rfl
    go_enter Try.func89, Try.ntmps89
    go_wp2_with fail
    go_ret
    exact ⟨rfl, (Below.refl _ w).alloc (Nat.le_refl _) _⟩
  · have hk := mark_conv w [35, 1, 0, 0, 47, 3, 0, 0] #[.int .u8 35, .int .u8 1, .int .u8 0, .int .u8 0, .int .u8 47, .int .u8 3, .int .u8 0, .int .u8 0] rfl 8 rfl
    go_enter Try.func89, Try.ntmps89
    go_wp2_with fail
    go_ret
    exact ⟨rfl, (Below.refl _ w).alloc (Nat.le_refl _) _⟩
  · have hk := mark_conv w [35, 1, 0, 0, 47, 4, 0, 0] #[.int .u8 35, .int .u8 1, .int .u8 0, .int .u8 0, .int .u8 47, .int .u8 4, .int .u8 0, .int .u8 0] rfl 8 rfl
    go_enter Try.func89, Try.ntmps89
    go_wp2_with fail
    go_ret
    exact ⟨rfl, (Below.refl _ w).alloc (Nat.le_refl _) _⟩
  · have hk := mark_conv w [35, 1, 0, 0, 47, 5, 0, 0] #[.int .u8 35, .int .u8 1, .int .u8 0, .int .u8 0, .int .u8 47, .int .u8 5, .int .u8 0, .int .u8 0] rfl 8 rfl
    go_enter Try.func89, Try.ntmps89
    go_wp2_with fail
    go_ret
    exact ⟨rfl, (Below.refl _ w).alloc (Nat.le_refl _) _⟩
  · have hk := mark_conv w [35, 1, 0, 0, 47, 6, 0, 0] #[.int .u8 35, .int .u8 1, .int .u8 0, .int .u8 0, .int .u8 47, .int .u8 6, .int .u8 0, .int .u8 0] rfl 8 rfl
    go_enter Try.func89, Try.ntmps89
    go_wp2_with fail
    go_ret
    exact ⟨rfl, (Below.refl _ w).alloc (Nat.le_refl _) _⟩
  · have hk := mark_conv w [35, 1, 0, 0, 47, 7, 0, 0] #[.int .u8 35, .int .u8 1, .int .u8 0, .int .u8 0, .int .u8 47, .int .u8 7, .int .u8 0, .int .u8 0] rfl 8 rfl
    go_enter Try.func89, Try.ntmps89
    go_wp2_with fail
    go_ret
    exact ⟨rfl, (Below.refl _ w).alloc (Nat.le_refl _) _⟩
  · have hk := mark_conv w [35, 1, 0, 0, 47, 8, 0, 0] #[.int .u8 35, .int .u8 1, .int .u8 0, .int .u8 0, .int .u8 47, .int .u8 8, .int .u8 0, .int .u8 0] rfl 8 rfl
    go_enter Try.func89, Try.ntmps89
    go_wp2_with fail
    go_ret
    exact ⟨rfl, (Below.refl _ w).alloc (Nat.le_refl _) _⟩
  · have hk := mark_conv w [35, 1, 0, 0, 47, 9, 0, 0] #[.int .u8 35, .int .u8 1, .int .u8 0, .int .u8 0, .int .u8 47, .int .u8 9, .int .u8 0, .int .u8 0] rfl 8 rfl
    go_enter Try.func89, Try.ntmps89
    go_wp2_with fail
    go_ret
    exact ⟨rfl, (Below.refl _ w).alloc (Nat.le_refl _) _⟩
  · have hk := mark_conv w [35, 1, 0, 0, 47, 10, 0, 0] #[.int .u8 35, .int .u8 1, .int .u8 0, .int .u8 0, .int .u8 47, .int .u8 10, .int .u8 0, .int .u8 0] rfl 8 rfl
    go_enter Try.func89, Try.ntmps89
    go_wp2_with fail
    go_ret
    exact ⟨rfl, (Below.refl _ w).alloc (Nat.le_refl _) _⟩
  · have hk := mark_conv w [35, 1, 0, 0, 47, 11, 0, 0] #[.int .u8 35, .int .u8 1, .int .u8 0, .int .u8 0, .int .u8 47, .int .u8 11, .int .u8 0, .int .u8 0] rfl 8 rfl
    go_enter Try.func89, Try.ntmps89
    go_wp2_with fail
    go_ret
    exact ⟨rfl, (Below.refl _ w).alloc (Nat.le_refl _) _⟩

def markLab (j : Nat) : Lab := ⟨⟨#[]⟩, markB j⟩
def markLv (j : Nat) : Lev := ⟨⟨#[]⟩, 0, [], 8000024 + (j : Int), 0⟩
def marksL (k : Nat) : List Lab := (List.range k).map markLab
theorem marksL_succ (k : Nat) : marksL (k + 1) = marksL k ++ [markLab k] := by unfold marksL; rw [List.range_succ]; simp
theorem marksL_len (k : Nat) : (marksL k).length = k := by unfold marksL; simp
theorem markLabel_any (j : Nat) (hj : j < 12) (w : World) : Calls Try.prog 83 #[.int .i64 1, .int .i64 j] w fun e w' => e = .returned (.agg #[.string ⟨#[]⟩, .string (markB j)]) ∧ Below w.heap.size w w' := by
  have HM := Lib.hid (fun W => markText_any j hj W)
  generalize markB j = mk at HM
  have hj1 : (j : Int) ≤ 11 := by omega
  have hj0 : (0 : Int) ≤ (j : Int) := by omega
  go_enter Try.func83, Try.ntmps83
  go_wp2_with fail
  refine (HM.out _).mono ?_
  rintro e w1 ⟨rfl, hb1⟩
  have hz1 : w.heap.size < w1.heap.size := by have := hb1.size; simp at this; omega
  have c0 : w1.cell? ⟨w.heap.size, 0, none⟩ = some (.string ⟨#[]⟩) := (hb1.cell (p := ⟨w.heap.size, 0, none⟩) (by simp)).trans (by simp [go_sem])
  have c1 : w1.cell? ⟨w.heap.size, 1, none⟩ = some (.string ⟨#[]⟩) := (hb1.cell (p := ⟨w.heap.size, 1, none⟩) (by simp)).trans (by simp [go_sem])
  have f0 : w1.frozen? ⟨w.heap.size, 0, none⟩ = false := (hb1.frozen (p := ⟨w.heap.size, 0, none⟩) (by simp)).trans (by simp [go_sem])
  have f1 : w1.frozen? ⟨w.heap.size, 1, none⟩ = false := (hb1.frozen (p := ⟨w.heap.size, 1, none⟩) (by simp)).trans (by simp [go_sem])
  have hB1 : Below w.heap.size w w1 := ((Below.refl _ w).alloc (Nat.le_refl _) _).trans (hb1.mono (by simp))
  clear hb1
  go_wp2_with fail
  exact bodyPost_ret (v := .agg #[.string ⟨#[]⟩, .string mk]) (by simp [results, Try.results83, go_sem, c0, c1]) rfl ⟨rfl, (hB1.setCell (p := ⟨w.heap.size, 0, none⟩) (Nat.le_refl _) _).setCell (p := ⟨w.heap.size, 1, none⟩) (Nat.le_refl _) _⟩
def markLvV (j : Nat) : Value := .agg #[.string ⟨#[]⟩, .int .i64 0, .slice none 0 0, .int .i64 (8000024 + (j : Int)), .int .i64 0]
theorem mark_any (j : Nat) (hj : j < 12) (w : World) : Calls Try.prog 66 #[.int .i64 1, .int .i64 j] w fun e w' => e = .returned (.int .i64 (8000024 + (j : Int))) ∧ w = w' := by
  have hj1 : (j : Int) ≤ 11 := by omega
  have hj0 : (0 : Int) ≤ (j : Int) := by omega
  go_enter Try.func66, Try.ntmps66
  go_wp2_with fail
  go_ret
  exact ⟨rfl, rfl⟩
theorem markLevel_any (j : Nat) (hj : j < 12) (w : World) : Calls Try.prog 50 #[.int .i64 1, .int .i64 j] w fun e w' => e = .returned (markLvV j) ∧ Below w.heap.size w w' := by
  have HM := Lib.hid (fun W => mark_any j hj W)
  unfold markLvV
  generalize 8000024 + (j : Int) = mk at HM ⊢
  have hj1 : (j : Int) ≤ 11 := by omega
  have hj0 : (0 : Int) ≤ (j : Int) := by omega
  go_enter Try.func50, Try.ntmps50
  go_wp2_with fail
  refine (HM.out _).mono ?_
  rintro e w1 ⟨rfl, rfl⟩
  go_wp2_with fail
  exact bodyPost_ret (v := .agg #[.string ⟨#[]⟩, .int .i64 0, .slice none 0 0, .int .i64 mk, .int .i64 0]) (by simp [results, Try.results50, go_sem]) rfl ⟨rfl, (Below.refl _ w).alloc (Nat.le_refl _) _⟩
end Go.Proofs.Ytdahgfopighhlaa
