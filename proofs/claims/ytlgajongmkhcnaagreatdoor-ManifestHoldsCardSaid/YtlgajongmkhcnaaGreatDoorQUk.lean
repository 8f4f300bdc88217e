/-
  letterbaglaw27.ManifestHolds returns true for every input: the card, from the walk. Its conditions: those of the row (the variables that it lists hold what the program's text lays).
-/
import Derived.Test.YtlgajongmkhcnaaGreatDoorQUo
import Derived.Test.YtlgajongmkhcnaaGreatDoorQUQ
import Derived.Test.YtlgajongmkhcnaaGreatDoorQUj
set_option maxRecDepth 100000
set_option linter.unusedVariables false
set_option linter.unusedSimpArgs false
set_option maxHeartbeats 32000000
namespace Go.Proofs.YtlgajongmkhcnaaGreatDoor
section
open Go.RowKit
theorem Zll (c : UInt8) {n s b d : Int} {ps least cents : List UInt8} {l : List UInt16} {vp vl vc vs : Value} {w : World} (ht : TabW w) (hn : 0 <= n /\ n < 4294967296) (hs : 0 <= s /\ s < 4294967296) (hb : 0 <= b /\ b < 4294967296) (hd : -9223372036854775808 <= d /\ d <= 9223372036854775807) (pD : RdBytes w vp ps) (pE : RdBytes w vl least) (pF : RdBytes w vc cents) (pG : Z7H w vs l)
 (pH : ps.length <= maxLen) (pI : least.length <= maxLen) (pJ : cents.length <= maxLen) (pK : l.length <= maxLen) :
 Calls Tryz.prog 4 #[.int .u32 n, .int .u32 s, vp, vl, vc, vs, .int .u32 b, .int .u8 (c.toNat : Int), .int .i64 d] w fun e w' => e = .returned (.bool true) /\ Below w.1.size w w' := by
 obtain ⟨nN, rfl⟩ : ∃ nN : Nat, n = (nN : Int) := ⟨n.toNat, (Ka3 hn.1).symm⟩
 obtain ⟨bN, rfl⟩ : ∃ bN : Nat, b = (bN : Int) := ⟨b.toNat, (Ka3 hb.1).symm⟩
 exact Zme nN ps s bN c.toNat d vp vl vc vs _ _ (Z6X bN) w ht ⟨ZfI s least cents l 100 (by decide), Z7a _ _ _⟩ (Zk1 (by omega) pD pH) (ZiC hs.1 hs.2 (by omega) pE pF pG pI pJ pK (by decide)) (Zcx bN) (Z6W bN _) c.toNat_lt hd
end
section
open Go.ChangeShapes Go.WideShapes Go.ChangeAt Go.RowKit
open Go.ChangeMaps (open_string shut_string)
set_option maxRecDepth 100000 in
theorem Zlh (os : Os) (started : os.Started) (H : Type) (enc : TypeId × Value -> H) :
 ReturnsInHanded {} Tryz.checked os 4 .any (fun w args => (Rows.manifestHoldsSpec.pre enc Tryz.prog Tryz.f4 Rows.manifestHoldsRow.domain false w args /\ laidMetH Tryz.prog Rows.manifestHoldsRow.laid w) /\ sizedMet enc Tryz.prog Tryz.f4 (OpenSpec.ofChange Rows.manifestHoldsSpec) false w args)
  (Rows.manifestHoldsSpec.post enc Tryz.prog Tryz.f4 false true false false) := by
 refine Z3w (C := Tryz.checked) (l := Rows.manifestHoldsRow.laid) own started (by kernel_rfl) Tryz.func4
  (ChangeSpec.witness_shaped (enc := enc) (C := Tryz.checked) (os := os) (X := fun w _ => laidMetH Tryz.prog Rows.manifestHoldsRow.laid w) false (World.laidAll Tryz.prog os Rows.manifestHoldsRow.laid) #[.int .u32 0, .int .u32 0, .slice none 0 0, .slice none 0 0, .slice none 0 0, .slice none 0 0, .int .u32 0, .int .u8 0, .int .i64 0] 8 (World.laidAll_os _ _ _)
   (World.shaped_of_ZipB (by kernel_rfl) (by kernel_rfl)) (by kernel_rfl) (by kernel_rfl) (by kernel_rfl)
   (by rw [MakeChecks.laidMetH_plain _ _ _ (by kernel_rfl)]; exact laidMet_laidAll _ (by kernel_rfl) (by kernel_rfl))) ?_
 intro W base args ds gs before pB hW pZ qA pL
 have pA : ∀ (j : Nat) t v, Tryz.f4.params[j]? = some t -> args[j]? = some v -> Value.okWide Tryz.prog W .any base t v := pB
 have hW' := hW
 obtain ⟨p, q, pC, hV, rfl, _, _⟩ := hW
 have hA : DataW.TrodAll enc Tryz.prog W 0 (fun _ => true) true Tryz.f4.params.toList args.toList ds p := pC
 rw [Tryz.params4] at hA pA
 obtain ⟨rfl, rfl⟩ := trodVars_none hV
 have ht := Z6B pL (by kernel_rfl) (by kernel_rfl)
 have pM := hA
 obtain ⟨v0, w0, d0, e0, p0, q0, a0, rfl, rfl, h0, pN⟩ := trodAll_cons hA
 obtain ⟨v1, w1, d1, e1, p1, q1, a1, rfl, rfl, h1, pO⟩ := trodAll_cons pN
 obtain ⟨v2, w2, d2, e2, p2, q2, a2, rfl, rfl, h2, pP⟩ := trodAll_cons pO
 obtain ⟨v3, w3, d3, e3, p3, q3, a3, rfl, rfl, h3, pQ⟩ := trodAll_cons pP
 obtain ⟨v4, w4, d4, e4, p4, q4, a4, rfl, rfl, h4, pR⟩ := trodAll_cons pQ
 obtain ⟨v5, w5, d5, e5, p5, q5, a5, rfl, rfl, h5, pS⟩ := trodAll_cons pR
 obtain ⟨v6, w6, d6, e6, p6, q6, a6, rfl, rfl, h6, pT⟩ := trodAll_cons pS
 obtain ⟨v7, w7, d7, e7, p7, q7, a7, rfl, rfl, h7, pU⟩ := trodAll_cons pT
 obtain ⟨v8, w8, d8, e8, p8, q8, a8, rfl, rfl, h8, pV⟩ := trodAll_cons pU
 obtain ⟨a9, rfl, rfl⟩ := trodAll_nil pV
 subst a9
 subst a8
 subst a7
 subst a6
 subst a5
 subst a4
 subst a3
 subst a2
 subst a1
 have pW : args = #[v0, v1, v2, v3, v4, v5, v6, v7, v8] := by cases args; simp_all
 subst pW
 clear a0
 obtain ⟨x0, rfl, _, _, g0⟩ := open_int Tryz.underlying22 (pA 0 22 v0 rfl rfl) h0
 have b0 := Z2P g0
 obtain ⟨x1, rfl, _, _, g1⟩ := open_int Tryz.underlying22 (pA 1 22 v1 rfl rfl) h1
 have b1 := Z2P g1
 obtain ⟨y2, r2, l2, z2⟩ := Z19 (pA 2 23 v2 rfl rfl) h2
 obtain ⟨y3, r3, l3, z3⟩ := Z19 (pA 3 23 v3 rfl rfl) h3
 obtain ⟨y4, r4, l4, z4⟩ := Z19 (pA 4 23 v4 rfl rfl) h4
 obtain ⟨y5, r5, l5, z5⟩ := Z41 (pA 5 24 v5 rfl rfl) h5
 obtain ⟨x6, rfl, _, _, g6⟩ := open_int Tryz.underlying22 (pA 6 22 v6 rfl rfl) h6
 have b6 := Z2P g6
 obtain ⟨x7, rfl, _, _, g7⟩ := open_int Tryz.underlying5 (pA 7 5 v7 rfl rfl) h7
 obtain ⟨c7, rfl⟩ := ZgS g7
 obtain ⟨x8, rfl, _, _, g8⟩ := open_int Tryz.underlying3 (pA 8 3 v8 rfl rfl) h8
 have b8 := ZlX g8
 clear pC pB
 simp only [Ka1] at hW'
 refine (Zll c7 ht b0 b1 b6 b8 r2 r3 r4 z5 l2 l3 l4 l5).mono fun e W' ⟨he, bel⟩ => ?_
 subst he
 exact ⟨_, rfl, _, _, _, [], _, [], hW', trodAll_mk1 (shut_bool Tryz.underlying4 _), Z7F laidOut bel (by kernel_rfl) pM (fun x hx => by simpa using hW'.lt x (by simpa using hx)), rfl, bel.frame _, fun h => by cases h⟩
theorem manifestHolds_holds : Rows.ManifestHoldsSaid :=
 OpenClaim.holds_of_wide 4 Tryz.f4 rfl rfl rfl rfl rfl rfl rfl ⟨rfl, rfl, rfl, rfl, rfl⟩ rfl rfl rfl rfl rfl (by kernel_rfl) Tryz.func4 (by kernel_rfl)
  (of_decide_eq_true (by kernel_rfl)) (by unfold Func.isWrapper; first | (rw [if_pos (by decide +kernel)]; kernel_rfl) | (rw [if_neg (by decide +kernel)]; exact ⟨rfl, rfl⟩))
  (fun os started H enc _ => Zlh os started H enc)
theorem manifestHolds_card : Rows.ManifestHoldsCardSaid :=
 Claim7.holds_tied_plain_at .later [] [.data, .data, .data] true (true, "90399fa6d9059495c10ab5e384f2639377445f063ac88c2bad8853051b50922e") false manifestHolds_holds (fun _ h => by cases h) (by kernel_rfl) (fun _ h => by cases h) manifestHolds_row_tie rfl ⟨rfl, rfl⟩ (by kernel_rfl) rfl
  (fun f fn hf pX => by
   obtain rfl : f = 4 := Kav ((show Tryz.prog.funcNamed "letterbag/letterbaglaw27.ManifestHolds" = some 4 by kernel_rfl).symm.trans hf) |>.symm
   obtain rfl : fn = Tryz.f4 := (Kav (Tryz.func4.symm.trans pX)).symm
   exact ⟨by kernel_rfl, fun j t ht => by
    rw [Tryz.params4] at ht
    have hm : t ∈ [22, 22, 23, 23, 23, 24, 22, 5, 3] := by simpa using Array.mem_of_getElem? ht
    have pY : ([22, 22, 23, 23, 23, 24, 22, 5, 3].all fun u => !Tryz.prog.wantsStandIn u) = true := by kernel_rfl
    exact (show Tryz.prog.wantsStandIn t = false by simpa using Kbk.1 pY t hm)⟩)
  (by kernel_rfl)
end
end Go.Proofs.YtlgajongmkhcnaaGreatDoor
