/-
  letterbaglaw23.SchemeTells returns true for every input, and leaves its arguments as they were: the row, from the walk. No condition.
-/
import Derived.Test.YtdahgfopighhlaaU11
namespace Go.Proofs.Ytdahgfopighhlaa
open Go.ChangeShapes Go.WideShapes Go.ChangeAt Go.RowKit
open Go.ChangeMaps (open_string shut_string)
set_option linter.unusedVariables false
set_option maxRecDepth 100000 in
theorem schemeTells_lifted (os : Os) (started : os.Started) (H : Type) (enc : TypeId × Value → H) :
    ReturnsInHanded {} Try.checked os 6 .any (Rows.schemeTellsSpec.pre6 enc Try.prog Try.f6 Rows.schemeTellsRow.domain false) (Rows.schemeTellsSpec.post enc Try.prog Try.f6 false true false false) := by
  refine returnsInHanded_of_change_sized (C := Try.checked) own started (by kernel_rfl) Try.func6
    (ChangeSpec.witness6 (enc := enc) (C := Try.checked) false ⟨#[], #[.slice none 0 0, .int .i64 0, .string ⟨#[]⟩], []⟩ 8 (by kernel_rfl) (by kernel_rfl) (by kernel_rfl) (by kernel_rfl)) ?_
  intro W base args ds gs before hval0 hW hcnd hwt _
  have hval : ∀ (j : Nat) t v, Try.f6.params[j]? = some t → args[j]? = some v → Value.okWide Try.prog W .any base t v := hval0
  have hW' := hW
  obtain ⟨p, q, hA0, hV, rfl, _, _⟩ := hW
  have hA : DataW.TrodAll enc Try.prog W 0 (fun _ => true) true Try.f6.params.toList args.toList ds p := hA0
  rw [Try.params6] at hA hval
  obtain ⟨v0, v1, v2, d0, d1, d2, p0, p1, p2, rfl, rfl, rfl, h0, h1, h2⟩ := trodAll_three hA
  obtain ⟨rfl, rfl⟩ := trodVars_none hV
  have hwt0 : okW (d0.weights Try.prog 25) := by
    have h1 : ((DataW.weightsEach Try.prog (Try.f6.params.toList ++ _) ([d0, d1, d2] ++ [])).all (· ≤ reachBytes)) = true := hwt
    rw [Try.params6] at h1
    have h2 : ∀ x ∈ DataW.weightsEach Try.prog ([25, 3, 9] ++ _) ([d0, d1, d2] ++ []), x ≤ reachBytes := fun x hx => by
      have := List.all_eq_true.1 h1 x hx
      simpa using this
    exact fun x hx => h2 x (by simp only [List.cons_append, List.nil_append, DataW.weightsEach]; exact List.mem_append_left _ hx)
  obtain ⟨y0, r0, l0, z0⟩ := open_levels_arg (hval 0 25 v0 rfl rfl) h0 hwt0
  obtain ⟨x1, rfl, rfl, rfl, f1⟩ := open_int Try.underlying3 (hval 1 3 v1 rfl rfl) h1
  have b1 := i64_of_wf f1
  obtain ⟨s2, rfl, rfl, rfl, b2⟩ := open_string Try.underlying9 (hval 2 9 v2 rfl rfl) h2
  clear hA0 hval0
  simp only [List.append_nil] at hW'
  refine (schemeTells_walk y0 _ x1 s2 W r0 z0 l0 b2).mono fun e W' ⟨he, bel⟩ => ?_
  subst he
  exact ⟨_, rfl, _, _, _, [], _, [], hW', trodAll_mk1 (shut_bool Try.underlying4 _), (trodAll_mk3 (Below.trod laidOut (by kernel_rfl) (of_decide_eq_true (by kernel_rfl)) h0 bel (fun x hx => by simpa using hW'.lt x (by simp [hx]))) (shut_int Try.underlying3 f1) (shut_string Try.underlying9 b2)), rfl, bel.frame _, fun h => by cases h⟩
theorem schemeTells_holds : Rows.SchemeTellsSaid :=
  OpenClaim.holds_of_wide 6 Try.f6 rfl rfl rfl rfl rfl rfl rfl ⟨rfl, rfl, rfl, rfl, rfl⟩ rfl rfl rfl rfl rfl (by kernel_rfl) Try.func6 (by kernel_rfl)
    (of_decide_eq_true (by kernel_rfl)) (by unfold Func.isWrapper; first | (rw [if_pos (by decide +kernel)]; kernel_rfl) | (rw [if_neg (by decide +kernel)]; exact ⟨rfl, rfl⟩))
    (fun os started H enc _ => schemeTells_lifted os started H enc)
end Go.Proofs.Ytdahgfopighhlaa
