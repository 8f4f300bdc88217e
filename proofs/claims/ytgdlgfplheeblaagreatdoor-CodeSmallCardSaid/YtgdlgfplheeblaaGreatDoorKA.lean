/-
  Package code: patterns, perm.
-/
import Derived.Test.YtgdlgfplheeblaaGreatDoorKP
namespace Go.Proofs.YtgdlgfplheeblaaGreatDoor
open Go.RowKit
set_option linter.unusedVariables false
set_option maxRecDepth 100000
def patS (j : Nat) : ByteArray := match j with | 1 => ⟨#[68, 68, 68, 68, 68]⟩ | 2 => ⟨#[76, 68, 76, 68, 76, 68]⟩ | 3 => ⟨#[68, 68, 68, 68]⟩ | _ => ⟨#[]⟩
def patsA : Value := .agg #[.string (patS 0), .string (patS 1), .string (patS 2), .string (patS 3)]
theorem patterns_any (w : World) : Calls Tryz.prog 21 #[] w fun e w' => e = .returned patsA ∧ Below w.heap.size w w' := by
  go_enter Tryz.func21, Tryz.ntmps21
  go_wp2
  exact bodyPost_ret (v := patsA) (by simp [results, Tryz.results21, go_sem, patsA, patS]) rfl ⟨rfl, (Below.refl _ _).alloc (Nat.le_refl _) _⟩
theorem pats_at (j : Nat) (h : j < 4) (w : World) : (Instr.index 56 patsA (.int .u8 (j : Nat))).run Tryz.prog w = .ok (.string (patS j)) w :=
  match j, h with
  | 0, _ => by as_aux_lemma => kernel_rfl
  | 1, _ => by as_aux_lemma => kernel_rfl
  | 2, _ => by as_aux_lemma => kernel_rfl
  | 3, _ => by as_aux_lemma => kernel_rfl
  | j + 4, h => absurd h (by omega)
theorem cperm_any (w : World) : Calls Tryz.prog 26 #[] w fun e w' => e = .returned sysA ∧ Below w.heap.size w w' := by
  go_enter Tryz.func26, Tryz.ntmps26
  go_wp2
  exact bodyPost_ret (v := sysA) (by simp [results, Tryz.results26, go_sem, sysA]) rfl ⟨rfl, (Below.refl _ _).alloc (Nat.le_refl _) _⟩
end Go.Proofs.YtgdlgfplheeblaaGreatDoor
