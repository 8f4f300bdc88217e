/-
  letterbaglaw27.ManifestTexts returns true for every input: the card, from the walk. Its conditions: those of the row (the variables that it lists hold what the program's text lays).
-/
import Derived.Test.YtojedplbhialpaaGreatDoorKX
import Derived.Test.YtojedplbhialpaaGreatDoorE9
namespace Go.Proofs.YtojedplbhialpaaGreatDoor
open Go.ChangeShapes Go.WideShapes Go.ChangeAt Go.RowKit
open Go.ChangeMaps (open_string shut_string)
set_option linter.unusedVariables false
set_option maxRecDepth 100000 in
theorem manifestTexts_lifted (os : Os) (started : os.Started) (H : Type) (enc : TypeId × Value → H) :
    ReturnsInHanded {} Tryz.checked os 5 .any (fun w args => (Rows.manifestTextsSpec.pre enc Tryz.prog Tryz.f5 Rows.manifestTextsRow.domain false w args ∧ laidMetH Tryz.prog Rows.manifestTextsRow.laid w) ∧ sizedMet enc Tryz.prog Tryz.f5 (OpenSpec.ofChange Rows.manifestTextsSpec) false w args)
      (Rows.manifestTextsSpec.post enc Tryz.prog Tryz.f5 false true false false) := by
  refine returns_of_laid (C := Tryz.checked) (l := Rows.manifestTextsRow.laid) own started (by kernel_rfl) Tryz.func5
    (ChangeSpec.witness_shaped (enc := enc) (C := Tryz.checked) (os := os) (X := fun w _ => laidMetH Tryz.prog Rows.manifestTextsRow.laid w) false (World.laidAll Tryz.prog os Rows.manifestTextsRow.laid) #[.slice none 0 0, .agg #[.slice none 0 0, .int .i64 0, .int .i64 0, .int .i64 0, .int .i64 0, .int .i64 0, .int .i64 0, .int .i64 0, .int .i64 0, .int .i64 0, .int .i64 0, .int .i64 0]] 8 (World.laidAll_os _ _ _)
      (World.shaped_of_ZipB (by kernel_rfl) (by kernel_rfl)) (by kernel_rfl) (by kernel_rfl) (by kernel_rfl)
      (by rw [MakeChecks.laidMetH_plain _ _ _ (by kernel_rfl)]; exact laidMet_laidAll _ (by kernel_rfl) (by kernel_rfl))) ?_
  intro W base args ds gs before hval0 hW hwt hsh hlaid
  have hval : ∀ (j : Nat) t v, Tryz.f5.params[j]? = some t → args[j]? = some v → Value.okWide Tryz.prog W .any base t v := hval0
  have hW' := hW
  obtain ⟨p, q, hA0, hV, rfl, _, _⟩ := hW
  have hA : DataW.TrodAll enc Tryz.prog W 0 (fun _ => true) true Tryz.f5.params.toList args.toList ds p := hA0
  rw [Tryz.params5] at hA hval
  obtain ⟨rfl, rfl⟩ := trodVars_none hV
  have ht := tab_of_laid hlaid (by kernel_rfl) (by kernel_rfl)
  have hA1 := hA
  obtain ⟨v0, w0, d0, e0, p0, q0, a0, rfl, rfl, h0, hr0⟩ := trodAll_cons hA
  obtain ⟨v1, w1, d1, e1, p1, q1, a1, rfl, rfl, h1, hr1⟩ := trodAll_cons hr0
  obtain ⟨a2, rfl, rfl⟩ := trodAll_nil hr1
  subst a2
  subst a1
  have hargs : args = #[v0, v1] := by cases args; simp_all
  subst hargs
  clear a0
  have kw0 : okW (d0.weights Tryz.prog 26) := by
    have k1 : ((DataW.weightsEach Tryz.prog (Tryz.f5.params.toList ++ _) ([d0, d1] ++ [])).all (· ≤ reachBytes)) = true := hwt
    rw [Tryz.params5] at k1
    have k2 : ∀ x ∈ DataW.weightsEach Tryz.prog ([26, 44] ++ _) ([d0, d1] ++ []), x ≤ reachBytes := fun x hx => by
      have := List.all_eq_true.1 k1 x hx
      simpa using this
    exact fun x hx => k2 x (by simp only [List.cons_append, List.nil_append, DataW.weightsEach]; exact (List.mem_append_left _ hx))
  obtain ⟨y0, r0, l0, z0⟩ := open_levels_arg (hval 0 26 v0 rfl rfl) h0 kw0
  have kw1 : okW (d1.weights Tryz.prog 44) := by
    have k1 : ((DataW.weightsEach Tryz.prog (Tryz.f5.params.toList ++ _) ([d0, d1] ++ [])).all (· ≤ reachBytes)) = true := hwt
    rw [Tryz.params5] at k1
    have k2 : ∀ x ∈ DataW.weightsEach Tryz.prog ([26, 44] ++ _) ([d0, d1] ++ []), x ≤ reachBytes := fun x hx => by
      have := List.all_eq_true.1 k1 x hx
      simpa using this
    exact fun x hx => k2 x (by simp only [List.cons_append, List.nil_append, DataW.weightsEach]; exact (List.mem_append_right _ (List.mem_append_left _ hx)))
  obtain ⟨X1, u1, rfl, r1, n1, m1⟩ := open_man_arg (hval 1 44 v1 rfl rfl) h1 kw1
  clear hA0 hval0
  simp only [List.append_nil] at hW'
  refine (manifestTexts_walk ht r0 l0 z0 r1 n1 m1).mono fun e W' ⟨he, bel⟩ => ?_
  subst he
  exact ⟨_, rfl, _, _, _, [], _, [], hW', trodAll_mk1 (shut_bool Tryz.underlying4 _), all_below laidOut bel (by kernel_rfl) hA1 (fun x hx => by simpa using hW'.lt x (by simpa using hx)), rfl, bel.frame _, fun h => by cases h⟩
theorem manifestTexts_holds : Rows.ManifestTextsSaid :=
  OpenClaim.holds_of_wide 5 Tryz.f5 rfl rfl rfl rfl rfl rfl rfl ⟨rfl, rfl, rfl, rfl, rfl⟩ rfl rfl rfl rfl rfl (by kernel_rfl) Tryz.func5 (by kernel_rfl)
    (of_decide_eq_true (by kernel_rfl)) (by unfold Func.isWrapper; first | (rw [if_pos (by decide +kernel)]; kernel_rfl) | (rw [if_neg (by decide +kernel)]; exact ⟨rfl, rfl⟩))
    (fun os started H enc _ => manifestTexts_lifted os started H enc)
theorem manifestTexts_card : Rows.ManifestTextsCardSaid :=
  Claim7.holds_tied_plain_at .later [] [.data, .data, .data] true (true, "34b2cd45c16d1885dac4dee0b30d8565b6d65bfbc7cfcf494ef29034d37a4daf") false manifestTexts_holds (fun _ h => by cases h) (by kernel_rfl) (fun _ h => by cases h) manifestTexts_row_tie rfl ⟨rfl, rfl⟩ (by kernel_rfl) rfl
    (fun f fn hf hfn => by
      obtain rfl : f = 5 := Option.some.inj ((show Tryz.prog.funcNamed "letterbag/letterbaglaw27.ManifestTexts" = some 5 by kernel_rfl).symm.trans hf) |>.symm
      obtain rfl : fn = Tryz.f5 := (Option.some.inj (Tryz.func5.symm.trans hfn)).symm
      exact ⟨by kernel_rfl, fun j t ht => by
        rw [Tryz.params5] at ht
        have hm : t ∈ [26, 44] := by simpa using Array.mem_of_getElem? ht
        have hall : ([26, 44].all fun u => !Tryz.prog.wantsStandIn u) = true := by kernel_rfl
        exact (show Tryz.prog.wantsStandIn t = false by simpa using List.all_eq_true.1 hall t hm)⟩)
    (by kernel_rfl)
end Go.Proofs.YtojedplbhialpaaGreatDoor
