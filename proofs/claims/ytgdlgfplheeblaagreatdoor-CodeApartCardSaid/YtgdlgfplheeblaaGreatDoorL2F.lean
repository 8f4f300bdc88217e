/-
  letterbaglaw17.CodeApart returns true for every input: the card, from the walk. Its conditions: those of the row (the variables that it lists hold what the program's text lays).
-/
import Derived.Test.YtgdlgfplheeblaaGreatDoorKX
import Derived.Test.YtgdlgfplheeblaaGreatDoorL2
namespace Go.Proofs.YtgdlgfplheeblaaGreatDoor
open Go.ChangeShapes Go.WideShapes Go.ChangeAt Go.RowKit
open Go.ChangeMaps (open_string shut_string)
set_option linter.unusedVariables false
set_option maxRecDepth 100000 in
theorem codeApart_lifted (os : Os) (started : os.Started) (H : Type) (enc : TypeId × Value → H) :
    ReturnsInHanded {} Tryz.checked os 7 .any (fun w args => (Rows.codeApartSpec.pre enc Tryz.prog Tryz.f7 Rows.codeApartRow.domain false w args ∧ laidMetH Tryz.prog Rows.codeApartRow.laid w) ∧ sizedMet enc Tryz.prog Tryz.f7 (OpenSpec.ofChange Rows.codeApartSpec) false w args)
      (Rows.codeApartSpec.post enc Tryz.prog Tryz.f7 false true false false) := by
  refine returns_of_laid (C := Tryz.checked) (l := Rows.codeApartRow.laid) own started (by kernel_rfl) Tryz.func7
    (ChangeSpec.witness_shaped (enc := enc) (C := Tryz.checked) (os := os) (X := fun w _ => laidMetH Tryz.prog Rows.codeApartRow.laid w) false (World.laidAll Tryz.prog os Rows.codeApartRow.laid) #[.int .u8 0, .int .u8 0, sixV (fun _ => 0), sixV (fun _ => 0), .int .u32 0, .int .u32 0] 8 (World.laidAll_os _ _ _)
      (World.shaped_of_ZipB (by kernel_rfl) (by kernel_rfl)) (by kernel_rfl) (by kernel_rfl) (by kernel_rfl)
      (by rw [MakeChecks.laidMetH_plain _ _ _ (by kernel_rfl)]; exact laidMet_laidAll _ (by kernel_rfl) (by kernel_rfl))) ?_
  intro W base args ds gs before hval0 hW _ hsh hlaid
  have hval : ∀ (j : Nat) t v, Tryz.f7.params[j]? = some t → args[j]? = some v → Value.okWide Tryz.prog W .any base t v := hval0
  have hW' := hW
  obtain ⟨p, q, hA0, hV, rfl, _, _⟩ := hW
  have hA : DataW.TrodAll enc Tryz.prog W 0 (fun _ => true) true Tryz.f7.params.toList args.toList ds p := hA0
  rw [Tryz.params7] at hA hval
  obtain ⟨rfl, rfl⟩ := trodVars_none hV
  obtain ⟨ht, hg⟩ := tab_of_laid hlaid (by kernel_rfl) (by kernel_rfl)
  have hA1 := hA
  obtain ⟨v0, w0, d0, e0, p0, q0, a0, rfl, rfl, h0, hr0⟩ := trodAll_cons hA
  obtain ⟨v1, w1, d1, e1, p1, q1, a1, rfl, rfl, h1, hr1⟩ := trodAll_cons hr0
  obtain ⟨v2, w2, d2, e2, p2, q2, a2, rfl, rfl, h2, hr2⟩ := trodAll_cons hr1
  obtain ⟨v3, w3, d3, e3, p3, q3, a3, rfl, rfl, h3, hr3⟩ := trodAll_cons hr2
  obtain ⟨v4, w4, d4, e4, p4, q4, a4, rfl, rfl, h4, hr4⟩ := trodAll_cons hr3
  obtain ⟨v5, w5, d5, e5, p5, q5, a5, rfl, rfl, h5, hr5⟩ := trodAll_cons hr4
  obtain ⟨a6, rfl, rfl⟩ := trodAll_nil hr5
  subst a6
  subst a5
  subst a4
  subst a3
  subst a2
  subst a1
  have hargs : args = #[v0, v1, v2, v3, v4, v5] := by cases args; simp_all
  subst hargs
  clear a0
  obtain ⟨x0, rfl, _, _, g0⟩ := open_int Tryz.underlying5 (hval 0 5 v0 rfl rfl) h0
  obtain ⟨c0, rfl⟩ := u8_of_wf g0
  obtain ⟨x1, rfl, _, _, g1⟩ := open_int Tryz.underlying5 (hval 1 5 v1 rfl rfl) h1
  obtain ⟨c1, rfl⟩ := u8_of_wf g1
  obtain ⟨f2, b2, rfl⟩ := open_six (hval 2 28 v2 rfl rfl) h2
  obtain ⟨f3, b3, rfl⟩ := open_six (hval 3 28 v3 rfl rfl) h3
  obtain ⟨x4, rfl, _, _, g4⟩ := open_int Tryz.underlying29 (hval 4 29 v4 rfl rfl) h4
  obtain ⟨q54, rfl, b4⟩ := u32_of_wf g4
  obtain ⟨x5, rfl, _, _, g5⟩ := open_int Tryz.underlying29 (hval 5 29 v5 rfl rfl) h5
  obtain ⟨q55, rfl, b5⟩ := u32_of_wf g5
  clear hA0 hval0
  simp only [List.append_nil] at hW'
  refine (codeApart_walk c0 c1 f2 f3 q54 q55 W b2 b3 b4 b5 ht hg).mono fun e W' ⟨he, bel⟩ => ?_
  subst he
  exact ⟨_, rfl, _, _, _, [], _, [], hW', trodAll_mk1 (shut_bool Tryz.underlying4 _), all_below laidOut bel (by kernel_rfl) hA1 (fun x hx => by simpa using hW'.lt x (by simpa using hx)), rfl, bel.frame _, fun h => by cases h⟩
theorem codeApart_holds : Rows.CodeApartSaid :=
  OpenClaim.holds_of_wide 7 Tryz.f7 rfl rfl rfl rfl rfl rfl rfl ⟨rfl, rfl, rfl, rfl, rfl⟩ rfl rfl rfl rfl rfl (by kernel_rfl) Tryz.func7 (by kernel_rfl)
    (of_decide_eq_true (by kernel_rfl)) (by unfold Func.isWrapper; first | (rw [if_pos (by decide +kernel)]; kernel_rfl) | (rw [if_neg (by decide +kernel)]; exact ⟨rfl, rfl⟩))
    (fun os started H enc _ => codeApart_lifted os started H enc)
theorem codeApart_card : Rows.CodeApartCardSaid :=
  Claim7.holds_tied_plain_at .later [] [.data, .data, .data, .data, .sentinel, .sentinel, .pinned] true (true, "cb60f951403a0e25ada1b600bce9f5d094626134d1c42b546886cbea6b483d24") true codeApart_holds (fun _ h => by cases h) (by kernel_rfl) (fun _ h => by cases h) codeApart_row_tie rfl ⟨rfl, rfl⟩ (by kernel_rfl) rfl
    (fun f fn hf hfn => by
      obtain rfl : f = 7 := Option.some.inj ((show Tryz.prog.funcNamed "letterbag/letterbaglaw17.CodeApart" = some 7 by kernel_rfl).symm.trans hf) |>.symm
      obtain rfl : fn = Tryz.f7 := (Option.some.inj (Tryz.func7.symm.trans hfn)).symm
      exact ⟨by kernel_rfl, fun j t ht => by
        rw [Tryz.params7] at ht
        have hm : t ∈ [5, 5, 28, 28, 29, 29] := by simpa using Array.mem_of_getElem? ht
        have hall : ([5, 5, 28, 28, 29, 29].all fun u => !Tryz.prog.wantsStandIn u) = true := by kernel_rfl
        exact (show Tryz.prog.wantsStandIn t = false by simpa using List.all_eq_true.1 hall t hm)⟩)
    (by kernel_rfl)
end Go.Proofs.YtgdlgfplheeblaaGreatDoor
