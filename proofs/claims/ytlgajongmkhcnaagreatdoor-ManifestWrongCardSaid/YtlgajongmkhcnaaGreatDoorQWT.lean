/-
  letterbaglaw27.ManifestWrong returns true for every input: the card, from the walk. Its conditions: those of the row (the variables that it lists hold what the program's text lays).
-/
import Derived.Test.YtlgajongmkhcnaaGreatDoorQWS
import Derived.Test.YtlgajongmkhcnaaGreatDoorQWQ
set_option maxRecDepth 100000
set_option linter.unusedVariables false
set_option linter.unusedSimpArgs false
set_option maxHeartbeats 32000000
namespace Go.Proofs.YtlgajongmkhcnaaGreatDoor
section
open Go.RowKit
theorem Z4D {n s : Int} (c : UInt8) {l : List UInt16} {vs : Value} {w : World} (ht : TabW w) (hn : 0 <= n /\ n < 4294967296) (hs : 0 <= s /\ s < 4294967296) (pD : Z3B w vs l) (pE : l.length <= 70368744175616) :
 Calls Tryz.prog 6 #[.int .u32 n, .int .u32 s, vs, .int .u8 (c.toNat : Int)] w fun e w' => e = .returned (.bool true) /\ Below w.1.size w w' := by
 obtain ⟨nN, rfl⟩ : ∃ nN : Nat, n = (nN : Int) := ⟨n.toNat, (Ka3 hn.1).symm⟩
 exact Z99 nN s c vs l w ht (by omega) hs.1 hs.2 pD pE
end
section
open Go.ChangeShapes Go.WideShapes Go.ChangeAt Go.RowKit
open Go.ChangeMaps (open_string shut_string)
set_option maxRecDepth 100000 in
theorem Z3Q (os : Os) (started : os.Started) (H : Type) (enc : TypeId × Value -> H) :
 ReturnsInHanded {} Tryz.checked os 6 .any (fun w args => (Rows.manifestWrongSpec.pre enc Tryz.prog Tryz.f6 Rows.manifestWrongRow.domain false w args /\ laidMetH Tryz.prog Rows.manifestWrongRow.laid w) /\ sizedMet enc Tryz.prog Tryz.f6 (OpenSpec.ofChange Rows.manifestWrongSpec) false w args)
  (Rows.manifestWrongSpec.post enc Tryz.prog Tryz.f6 false true false false) := by
 refine Z6s (C := Tryz.checked) (l := Rows.manifestWrongRow.laid) own started (by kernel_rfl) Tryz.func6
  (ChangeSpec.witness_shaped (enc := enc) (C := Tryz.checked) (os := os) (X := fun w _ => laidMetH Tryz.prog Rows.manifestWrongRow.laid w) false (World.laidAll Tryz.prog os Rows.manifestWrongRow.laid) #[.int .u32 0, .int .u32 0, .slice none 0 0, .int .u8 0] 8 (World.laidAll_os _ _ _)
   (World.shaped_of_ZipB (by kernel_rfl) (by kernel_rfl)) (by kernel_rfl) (by kernel_rfl) (by kernel_rfl)
   (by rw [MakeChecks.laidMetH_plain _ _ _ (by kernel_rfl)]; exact laidMet_laidAll _ (by kernel_rfl) (by kernel_rfl))) ?_
 intro W base args ds gs before pB hW pF pR pG
 have pA : ∀ (j : Nat) t v, Tryz.f6.params[j]? = some t -> args[j]? = some v -> Value.okWide Tryz.prog W .any base t v := pB
 have hW' := hW
 obtain ⟨p, q, pC, hV, rfl, _, _⟩ := hW
 have hA : DataW.TrodAll enc Tryz.prog W 0 (fun _ => true) true Tryz.f6.params.toList args.toList ds p := pC
 rw [Tryz.params6] at hA pA
 obtain ⟨rfl, rfl⟩ := trodVars_none hV
 have ht := Zau pG (by kernel_rfl) (by kernel_rfl)
 have pH := hA
 obtain ⟨v0, w0, d0, e0, p0, q0, a0, rfl, rfl, h0, pI⟩ := trodAll_cons hA
 obtain ⟨v1, w1, d1, e1, p1, q1, a1, rfl, rfl, h1, pJ⟩ := trodAll_cons pI
 obtain ⟨v2, w2, d2, e2, p2, q2, a2, rfl, rfl, h2, pK⟩ := trodAll_cons pJ
 obtain ⟨v3, w3, d3, e3, p3, q3, a3, rfl, rfl, h3, pL⟩ := trodAll_cons pK
 obtain ⟨a4, rfl, rfl⟩ := trodAll_nil pL
 subst a4
 subst a3
 subst a2
 subst a1
 have pM : args = #[v0, v1, v2, v3] := by cases args; simp_all
 subst pM
 clear a0
 obtain ⟨x0, rfl, _, _, g0⟩ := open_int Tryz.underlying22 (pA 0 22 v0 rfl rfl) h0
 have b0 := Z9c g0
 obtain ⟨x1, rfl, _, _, g1⟩ := open_int Tryz.underlying22 (pA 1 22 v1 rfl rfl) h1
 have b1 := Z9c g1
 obtain ⟨y2, r2, l2, z2⟩ := Z7x (pA 2 24 v2 rfl rfl) h2
 have pN : ∀ x ∈ d2.weights Tryz.prog 24, x <= reachBytes := by
  have k1 : ((DataW.weightsEach Tryz.prog (Tryz.f6.params.toList ++ _) ([d0, d1, d2, d3] ++ [])).all (· <= reachBytes)) = true := pF
  rw [Tryz.params6] at k1
  have k2 : ∀ x ∈ DataW.weightsEach Tryz.prog ([22, 22, 24, 5] ++ _) ([d0, d1, d2, d3] ++ []), x <= reachBytes := fun x hx => by
   have := Kbk.1 k1 x hx
   simpa using this
  exact fun x hx => k2 x (by simp only [Kc9, Kca, DataW.weightsEach]; exact (Kck _ (Kck _ (Kcn _ hx))))
 have wl2 : y2.length <= 70368744175616 := by
  obtain ⟨a9, c9, pO, _⟩ := r2
  have h9 := h2
  rw [pO] at h9
  exact Z8t h9 pN
 obtain ⟨x3, rfl, _, _, g3⟩ := open_int Tryz.underlying5 (pA 3 5 v3 rfl rfl) h3
 obtain ⟨c3, rfl⟩ := ZfQ g3
 clear pC pB
 simp only [Ka1] at hW'
 refine (Z4D c3 ht b0 b1 z2 wl2).mono fun e W' ⟨he, bel⟩ => ?_
 subst he
 exact ⟨_, rfl, _, _, _, [], _, [], hW', trodAll_mk1 (shut_bool Tryz.underlying4 _), Zai laidOut bel (by kernel_rfl) pH (fun x hx => by simpa using hW'.lt x (by simpa using hx)), rfl, bel.frame _, fun h => by cases h⟩
theorem manifestWrong_holds : Rows.ManifestWrongSaid :=
 OpenClaim.holds_of_wide 6 Tryz.f6 rfl rfl rfl rfl rfl rfl rfl ⟨rfl, rfl, rfl, rfl, rfl⟩ rfl rfl rfl rfl rfl (by kernel_rfl) Tryz.func6 (by kernel_rfl)
  (of_decide_eq_true (by kernel_rfl)) (by unfold Func.isWrapper; first | (rw [if_pos (by decide +kernel)]; kernel_rfl) | (rw [if_neg (by decide +kernel)]; exact ⟨rfl, rfl⟩))
  (fun os started H enc _ => Z3Q os started H enc)
theorem manifestWrong_card : Rows.ManifestWrongCardSaid :=
 Claim7.holds_tied_plain_at .later [] [.data, .data, .data] true (true, "90399fa6d9059495c10ab5e384f2639377445f063ac88c2bad8853051b50922e") false manifestWrong_holds (fun _ h => by cases h) (by kernel_rfl) (fun _ h => by cases h) manifestWrong_row_tie rfl ⟨rfl, rfl⟩ (by kernel_rfl) rfl
  (fun f fn hf pP => by
   obtain rfl : f = 6 := Kav ((show Tryz.prog.funcNamed "letterbag/letterbaglaw27.ManifestWrong" = some 6 by kernel_rfl).symm.trans hf) |>.symm
   obtain rfl : fn = Tryz.f6 := (Kav (Tryz.func6.symm.trans pP)).symm
   exact ⟨by kernel_rfl, fun j t ht => by
    rw [Tryz.params6] at ht
    have hm : t ∈ [22, 22, 24, 5] := by simpa using Array.mem_of_getElem? ht
    have pQ : ([22, 22, 24, 5].all fun u => !Tryz.prog.wantsStandIn u) = true := by kernel_rfl
    exact (show Tryz.prog.wantsStandIn t = false by simpa using Kbk.1 pQ t hm)⟩)
  (by kernel_rfl)
end
end Go.Proofs.YtlgajongmkhcnaaGreatDoor
