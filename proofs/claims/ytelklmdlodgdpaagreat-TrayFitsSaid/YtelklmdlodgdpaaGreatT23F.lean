/-
  letterbaglaw26.TrayFits returns true for every input, and leaves its arguments as they were: the row, from the walk. No condition.
-/
import Derived.Test.YtelklmdlodgdpaaGreatT23
namespace Go.Proofs.YtelklmdlodgdpaaGreat
open Go.ChangeShapes Go.WideShapes Go.ChangeAt Go.RowKit
open Go.ChangeMaps (open_string shut_string)
set_option linter.unusedVariables false
set_option maxRecDepth 100000 in
theorem trayFits_lifted (os : Os) (started : os.Started) (H : Type) (enc : TypeId × Value → H) :
    ReturnsInHanded {} Tryz.checked os 7 .any (Rows.trayFitsSpec.pre6 enc Tryz.prog Tryz.f7 Rows.trayFitsRow.domain false) (Rows.trayFitsSpec.post enc Tryz.prog Tryz.f7 false true false false) := by
  refine returnsInHanded_of_change (C := Tryz.checked) own started (by kernel_rfl) Tryz.func7
    (ChangeSpec.witness6 (enc := enc) (C := Tryz.checked) false ⟨#[], #[.int .u32 0, .slice none 0 0, .slice none 0 0, .slice none 0 0, .int .u32 0], []⟩ 8 (by kernel_rfl) (by kernel_rfl) (by kernel_rfl) (by kernel_rfl)) ?_
  intro W base args ds gs before hval0 hW hcnd _
  have hval : ∀ (j : Nat) t v, Tryz.f7.params[j]? = some t → args[j]? = some v → Value.okWide Tryz.prog W .any base t v := hval0
  have hW' := hW
  obtain ⟨p, q, hA0, hV, rfl, _, _⟩ := hW
  have hA : DataW.TrodAll enc Tryz.prog W 0 (fun _ => true) true Tryz.f7.params.toList args.toList ds p := hA0
  rw [Tryz.params7] at hA hval
  obtain ⟨v0, v1, v2, v3, v4, d0, d1, d2, d3, d4, p0, p1, p2, p3, p4, rfl, rfl, rfl, h0, h1, h2, h3, h4⟩ := trodAll_five hA
  obtain ⟨rfl, rfl⟩ := trodVars_none hV
  obtain ⟨x0, rfl, rfl, rfl, f0⟩ := open_int Tryz.underlying22 (hval 0 22 v0 rfl rfl) h0
  have b0 := u32_of_wf f0
  obtain ⟨y1, r1, l1, z1⟩ := open_bytes_arg (hval 1 23 v1 rfl rfl) h1
  obtain ⟨y2, r2, l2, z2⟩ := open_bytes_arg (hval 2 23 v2 rfl rfl) h2
  obtain ⟨y3, r3, l3, z3⟩ := open_u16sC_arg (hval 3 24 v3 rfl rfl) h3
  obtain ⟨x4, rfl, rfl, rfl, f4⟩ := open_int Tryz.underlying22 (hval 4 22 v4 rfl rfl) h4
  have b4 := u32_of_wf f4
  clear hA0 hval0
  simp only [List.append_nil] at hW'
  refine (trayFits_walk b0.1 b0.2 b4.1 b4.2 r1 r2 z3 l1 l2 l3).mono fun e W' ⟨he, bel⟩ => ?_
  subst he
  exact ⟨_, rfl, _, _, _, [], _, [], hW', trodAll_mk1 (shut_bool Tryz.underlying4 _), (trodAll_mk5 (shut_int Tryz.underlying22 f0) (Below.trod laidOut (by kernel_rfl) (of_decide_eq_true (by kernel_rfl)) h1 bel (fun x hx => by simpa using hW'.lt x (by simp [hx]))) (Below.trod laidOut (by kernel_rfl) (of_decide_eq_true (by kernel_rfl)) h2 bel (fun x hx => by simpa using hW'.lt x (by simp [hx]))) (Below.trod laidOut (by kernel_rfl) (of_decide_eq_true (by kernel_rfl)) h3 bel (fun x hx => by simpa using hW'.lt x (by simp [hx]))) (shut_int Tryz.underlying22 f4)), rfl, bel.frame _, fun h => by cases h⟩
theorem trayFits_holds : Rows.TrayFitsSaid :=
  OpenClaim.holds_of_wide 7 Tryz.f7 rfl rfl rfl rfl rfl rfl rfl ⟨rfl, rfl, rfl, rfl, rfl⟩ rfl rfl rfl rfl rfl (by kernel_rfl) Tryz.func7 (by kernel_rfl)
    (of_decide_eq_true (by kernel_rfl)) (by unfold Func.isWrapper; first | (rw [if_pos (by decide +kernel)]; kernel_rfl) | (rw [if_neg (by decide +kernel)]; exact ⟨rfl, rfl⟩))
    (fun os started H enc _ => trayFits_lifted os started H enc)
end Go.Proofs.YtelklmdlodgdpaaGreat
