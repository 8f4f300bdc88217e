/-
  Contracts of package digit at the system Perm: Append, Test at texts of digits.
-/
import Derived.Test.YtgdlgfplheeblaaGreatDoorK7
namespace Go.Proofs.YtgdlgfplheeblaaGreatDoor
open Go.RowKit
set_option linter.unusedVariables false
set_option maxRecDepth 100000
def charB (n : Nat) : ByteArray := ⟨#[UInt8.ofNat (48 + n)]⟩
theorem conv_char (n : Nat) (hn : n < 10) (W : World) : Sem.run Tryz.prog (convert 21 9 (.int .i32 (48 + (n : Int)))) W = .ok (.string (charB n)) W :=
  match n, hn with
  | 0, _ => by as_aux_lemma => kernel_rfl
  | 1, _ => by as_aux_lemma => kernel_rfl
  | 2, _ => by as_aux_lemma => kernel_rfl
  | 3, _ => by as_aux_lemma => kernel_rfl
  | 4, _ => by as_aux_lemma => kernel_rfl
  | 5, _ => by as_aux_lemma => kernel_rfl
  | 6, _ => by as_aux_lemma => kernel_rfl
  | 7, _ => by as_aux_lemma => kernel_rfl
  | 8, _ => by as_aux_lemma => kernel_rfl
  | 9, _ => by as_aux_lemma => kernel_rfl
  | n + 10, h => absurd h (by omega)
/-- A payload with its check digit. -/
def checked (s : ByteArray) : ByteArray := s ++ charB (checkD s)
set_option maxHeartbeats 4000000 in
theorem append_any (s : ByteArray) (w : World) (hd : digB s = true) (h1 : 1 ≤ s.size) (h2 : s.size ≤ 30) :
    Calls Tryz.prog 25 #[sysA, .string s] w fun e w' => e = .returned (.tuple #[.string (checked s), .int .i64 0]) ∧ Below w.heap.size w w' := by
  have HCK := Lib.hid (fun W => dCheck_any s W hd h1 h2)
  have hcl := checkD_lt hd
  have hcv := conv_char (checkD s) hcl
  have hcs : (charB (checkD s)).size = 1 := rfl
  have hov : ¬ 9223372036854775807 < s.size + (charB (checkD s)).size := by omega
  unfold checked
  generalize charB (checkD s) = cb at hcv hov
  generalize checkD s = c at HCK hcl hcv
  have hc0 : (0 : Int) ≤ (c : Int) := by omega
  have hc9 : (c : Int) ≤ 9 := by omega
  unfold sysA at HCK ⊢
  clear hd hcs
  go_enter Tryz.func25, Tryz.ntmps25
  go_wp2_with fail
  refine (HCK.out _).mono ?_
  rintro e w1 ⟨rfl, hb1⟩
  have HB1 : Hid (Below w.heap.size w w1) := ((Below.refl _ w).alloc (Nat.le_refl _) _).trans (hb1.mono (by simp))
  clear hb1
  go_wp2_with fail
  go_ret2
  exact ⟨rfl, HB1.out⟩
theorem digB_extract {s : ByteArray} (h : digB s = true) (a b : Nat) : digB (s.extract a b) = true := by
  rw [digB_iff] at *
  intro c hc
  refine h c ?_
  rw [ByteArray.data_extract, Array.toList_extract] at hc
  exact List.mem_of_mem_drop (List.mem_of_mem_take hc)
set_option maxHeartbeats 4000000 in
theorem isChecked_any (s : ByteArray) (w : World) (hd : digB s = true) (h1 : 2 ≤ s.size) (h2 : s.size ≤ 31) :
    Calls Tryz.prog 52 #[sysA, .string s] w fun e w' => e = .returned (.bool true) ∧ Below w.heap.size w w' := by
  have hlast : s.size - 1 < s.size := by omega
  have hdl := digB_iff.1 hd s[s.size - 1] (Array.mem_toList_iff.2 (Array.getElem_mem (xs := s.data) hlast))
  have hbl1 : 48 ≤ (s[s.size - 1].toNat : Int) := by omega
  have hbl2 : (s[s.size - 1].toNat : Int) ≤ 57 := by omega
  have hxs : (s.extract 0 (s.size - 1)).size = s.size - 1 := by rw [ByteArray.size_extract]; omega
  have HPY := Lib.hid (fun W => dPayload_any (s.extract 0 (s.size - 1)) W (by rw [hxs]; unfold maxLen; omega))
  have hne : (s.extract 0 (s.size - 1)).toList.isEmpty = false := by
    rw [ByteArray.toList_eq]
    have : (s.extract 0 (s.size - 1)).data.toList.length = s.size - 1 := hxs
    cases he : (s.extract 0 (s.size - 1)).data.toList with
    | nil => rw [he] at this; simp at this; omega
    | cons => rfl
  have hne2 : s.toList.isEmpty = false := by
    rw [ByteArray.toList_eq]
    have : s.data.toList.length = s.size := rfl
    cases he : s.data.toList with
    | nil => rw [he] at this; simp at this; omega
    | cons => rfl
  rw [digB_extract hd, hne] at HPY
  unfold sysA
  have hw1 : IntKind.i64.wrap ((s.size : Int) - 1) = (s.size : Int) - 1 := IntWalk.i64_in _ (by omega)
  have hw2 : 0 ≤ (s.size : Int) - 1 := by omega
  have hw3 : ((s.size : Int) - 1).toNat = s.size - 1 := by omega
  have hw4 : (s.size : Int) - 1 < (s.size : Int) := by omega
  have hw5 : (s.size : Int) - 1 ≤ (s.size : Int) := by omega
  have hw6 : 1 ≤ (s.size : Int) := by omega
  clear hd hdl hxs hne
  go_enter Tryz.func52, Tryz.ntmps52
  go_wp2_with fail
  refine (HPY.out _).mono ?_
  rintro e w1 ⟨rfl, hb1⟩
  have HB1 : Hid (Below w.heap.size w w1) := ((Below.refl _ w).alloc (Nat.le_refl _) _).trans (hb1.mono (by simp))
  clear hb1
  go_wp2_with fail
  go_ret
  exact ⟨rfl, HB1.out⟩
set_option maxHeartbeats 4000000 in
theorem test_any (s : ByteArray) (w : World) (hd : digB s = true) (h1 : 2 ≤ s.size) (h2 : s.size ≤ 31) :
    Calls Tryz.prog 28 #[sysA, .string s] w fun e w' => e = .returned (.tuple #[.bool (permB (valsOf s)), .int .i64 0]) ∧ Below w.heap.size w w' := by
  have HIC := Lib.hid (fun W => isChecked_any s W hd h1 h2)
  have HRG := Lib.hid (fun W => right_any W)
  have HVO := Lib.hid (fun W => valuesOf_any s W hd (by omega) (by omega))
  have HPS : Hid (∀ W g B, OwnR W B s.size g (valAt s) → Calls Tryz.prog 53 #[.agg #[.int .u8 4, .slice none 0 0], .slice (some ⟨g, 0, none⟩) s.size s.size] W fun e w' => e = .returned (.bool (permB (valsOf s))) ∧ Below W.heap.size W w') := fun W g B ho => passes_any _ _ W (rd_of_own ho) (fun x hx => valsOf_lt hd x hx) (by unfold valsOf; simp; omega)
  generalize permB (valsOf s) = pb at HPS
  unfold sysA at HIC HRG ⊢
  clear hd
  go_enter Tryz.func28, Tryz.ntmps28
  go_wp2_with fail
  refine (HRG.out _).mono ?_
  rintro e w1 ⟨rfl, hb1⟩
  have hz1 : w.heap.size < w1.heap.size := by have := hb1.size; simp at this; omega
  have b0 : w1.cell? ⟨w.heap.size, 0, none⟩ = some (.int .u8 4) := (hb1.cell (p := ⟨w.heap.size, 0, none⟩) (by simp)).trans (by simp [go_sem])
  have b1 : w1.cell? ⟨w.heap.size, 1, none⟩ = some (.slice none 0 0) := (hb1.cell (p := ⟨w.heap.size, 1, none⟩) (by simp)).trans (by simp [go_sem])
  have HB1 : Hid (Below w.heap.size w w1) := ((Below.refl _ w).alloc (Nat.le_refl _) _).trans (hb1.mono (by simp))
  clear hb1
  go_wp2_with fail
  refine (HIC.out _).mono ?_
  rintro e w2 ⟨rfl, hb2⟩
  have d0 : w2.cell? ⟨w.heap.size, 0, none⟩ = some (.int .u8 4) := (hb2.cell (p := ⟨w.heap.size, 0, none⟩) hz1).trans b0
  have d1 : w2.cell? ⟨w.heap.size, 1, none⟩ = some (.slice none 0 0) := (hb2.cell (p := ⟨w.heap.size, 1, none⟩) hz1).trans b1
  have hz2 : w.heap.size < w2.heap.size := by have := hb2.size; omega
  have HB2 := Lib.hid (HB1.out.trans (hb2.mono (by omega)))
  clear hb2 b0 b1 HB1 hz1 HIC HRG
  go_wp2_with fail
  go_region_with (first | (go_at_call 54; refine (HVO.out _).mono ?_; rintro e w3 ⟨g, rfl, ho3, hb3⟩; have e0 : w3.cell? ⟨w.heap.size, 0, none⟩ = some (.int .u8 4) := (hb3.cell (p := ⟨w.heap.size, 0, none⟩) hz2).trans d0; have e1 : w3.cell? ⟨w.heap.size, 1, none⟩ = some (.slice none 0 0) := (hb3.cell (p := ⟨w.heap.size, 1, none⟩) hz2).trans d1; have HO3 := Lib.hid ho3; have HB3 := Lib.hid (HB2.out.drew.trans (hb3.mono (Nat.le_of_lt hz2))); have hs3 := HB3.out.size; clear ho3 hb3) | (go_at_call 53; refine (HPS.out _ _ _ HO3.out).mono ?_; rintro e w4 ⟨rfl, hb4⟩))
  all_goals
    go_wp2_with fail
    go_ret2
    exact ⟨rfl, HB3.out.trans (hb4.mono hs3)⟩
end Go.Proofs.YtgdlgfplheeblaaGreatDoor
