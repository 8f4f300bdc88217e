/-
  letterbaglaw17.CodeTells returns true for every input: the card, from the walk. Its conditions: those of the row (the variables that it lists hold what the program's text lays).
-/
import Derived.Test.YtgdlgfplheeblaaGreatDoorKX
import Derived.Test.YtgdlgfplheeblaaGreatDoorN1
namespace Go.Proofs.YtgdlgfplheeblaaGreatDoor
open Go.ChangeShapes Go.WideShapes Go.ChangeAt Go.RowKit
open Go.ChangeMaps (open_string shut_string)
set_option linter.unusedVariables false
set_option maxRecDepth 100000 in
theorem codeTells_lifted (os : Os) (started : os.Started) (H : Type) (enc : TypeId × Value → H) :
    ReturnsInHanded {} Tryz.checked os 3 .any (fun w args => (Rows.codeTellsSpec.pre enc Tryz.prog Tryz.f3 Rows.codeTellsRow.domain false w args ∧ laidMetH Tryz.prog Rows.codeTellsRow.laid w) ∧ sizedMet enc Tryz.prog Tryz.f3 (OpenSpec.ofChange Rows.codeTellsSpec) false w args)
      (Rows.codeTellsSpec.post enc Tryz.prog Tryz.f3 false true false false) := by
  refine returns_of_laid (C := Tryz.checked) (l := Rows.codeTellsRow.laid) own started (by kernel_rfl) Tryz.func3
    (ChangeSpec.witness_shaped (enc := enc) (C := Tryz.checked) (os := os) (X := fun w _ => laidMetH Tryz.prog Rows.codeTellsRow.laid w) false (World.laidAll Tryz.prog os Rows.codeTellsRow.laid) #[.int .u8 0, .string ⟨#[]⟩, .int .i64 0] 8 (World.laidAll_os _ _ _)
      (World.shaped_of_ZipB (by kernel_rfl) (by kernel_rfl)) (by kernel_rfl) (by kernel_rfl) (by kernel_rfl)
      (by rw [MakeChecks.laidMetH_plain _ _ _ (by kernel_rfl)]; exact laidMet_laidAll _ (by kernel_rfl) (by kernel_rfl))) ?_
  intro W base args ds gs before hval0 hW _ hsh hlaid
  have hval : ∀ (j : Nat) t v, Tryz.f3.params[j]? = some t → args[j]? = some v → Value.okWide Tryz.prog W .any base t v := hval0
  have hW' := hW
  obtain ⟨p, q, hA0, hV, rfl, _, _⟩ := hW
  have hA : DataW.TrodAll enc Tryz.prog W 0 (fun _ => true) true Tryz.f3.params.toList args.toList ds p := hA0
  rw [Tryz.params3] at hA hval
  obtain ⟨rfl, rfl⟩ := trodVars_none hV
  obtain ⟨ht, hg⟩ := tab_of_laid hlaid (by kernel_rfl) (by kernel_rfl)
  have hA1 := hA
  obtain ⟨v0, w0, d0, e0, p0, q0, a0, rfl, rfl, h0, hr0⟩ := trodAll_cons hA
  obtain ⟨v1, w1, d1, e1, p1, q1, a1, rfl, rfl, h1, hr1⟩ := trodAll_cons hr0
  obtain ⟨v2, w2, d2, e2, p2, q2, a2, rfl, rfl, h2, hr2⟩ := trodAll_cons hr1
  obtain ⟨a3, rfl, rfl⟩ := trodAll_nil hr2
  subst a3
  subst a2
  subst a1
  have hargs : args = #[v0, v1, v2] := by cases args; simp_all
  subst hargs
  clear a0
  obtain ⟨x0, rfl, _, _, g0⟩ := open_int Tryz.underlying5 (hval 0 5 v0 rfl rfl) h0
  obtain ⟨c0, rfl⟩ := u8_of_wf g0
  obtain ⟨s1, rfl, _, _, b1⟩ := open_string Tryz.underlying9 (hval 1 9 v1 rfl rfl) h1
  obtain ⟨x2, rfl, _, _, g2⟩ := open_int Tryz.underlying3 (hval 2 3 v2 rfl rfl) h2
  have b2 := i64_of_wf g2
  clear hA0 hval0
  simp only [List.append_nil] at hW'
  refine (codeTells_walk c0 s1 x2 W ht hg).mono fun e W' ⟨he, bel⟩ => ?_
  subst he
  exact ⟨_, rfl, _, _, _, [], _, [], hW', trodAll_mk1 (shut_bool Tryz.underlying4 _), all_below laidOut bel (by kernel_rfl) hA1 (fun x hx => by simpa using hW'.lt x (by simpa using hx)), rfl, bel.frame _, fun h => by cases h⟩
theorem codeTells_holds : Rows.CodeTellsSaid :=
  OpenClaim.holds_of_wide 3 Tryz.f3 rfl rfl rfl rfl rfl rfl rfl ⟨rfl, rfl, rfl, rfl, rfl⟩ rfl rfl rfl rfl rfl (by kernel_rfl) Tryz.func3 (by kernel_rfl)
    (of_decide_eq_true (by kernel_rfl)) (by unfold Func.isWrapper; first | (rw [if_pos (by decide +kernel)]; kernel_rfl) | (rw [if_neg (by decide +kernel)]; exact ⟨rfl, rfl⟩))
    (fun os started H enc _ => codeTells_lifted os started H enc)
theorem codeTells_card : Rows.CodeTellsCardSaid :=
  Claim7.holds_tied_plain_at .later [] [.data, .data, .data, .data, .sentinel, .sentinel, .pinned] true (true, "cb60f951403a0e25ada1b600bce9f5d094626134d1c42b546886cbea6b483d24") true codeTells_holds (fun _ h => by cases h) (by kernel_rfl) (fun _ h => by cases h) codeTells_row_tie rfl ⟨rfl, rfl⟩ (by kernel_rfl) rfl
    (fun f fn hf hfn => by
      obtain rfl : f = 3 := Option.some.inj ((show Tryz.prog.funcNamed "letterbag/letterbaglaw17.CodeTells" = some 3 by kernel_rfl).symm.trans hf) |>.symm
      obtain rfl : fn = Tryz.f3 := (Option.some.inj (Tryz.func3.symm.trans hfn)).symm
      exact ⟨by kernel_rfl, fun j t ht => by
        rw [Tryz.params3] at ht
        have hm : t ∈ [5, 9, 3] := by simpa using Array.mem_of_getElem? ht
        have hall : ([5, 9, 3].all fun u => !Tryz.prog.wantsStandIn u) = true := by kernel_rfl
        exact (show Tryz.prog.wantsStandIn t = false by simpa using List.all_eq_true.1 hall t hm)⟩)
    (by kernel_rfl)
end Go.Proofs.YtgdlgfplheeblaaGreatDoor
