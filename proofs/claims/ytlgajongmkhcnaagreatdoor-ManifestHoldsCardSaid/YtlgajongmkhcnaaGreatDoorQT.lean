/-
  letterbaglaw27.ManifestHolds returns true for every input: the card, from the walk. Its conditions: those of the row (the variables that it lists hold what the program's text lays).
-/
import Derived.Test.YtlgajongmkhcnaaGreatDoorQZ
import Derived.Test.YtlgajongmkhcnaaGreatDoorQQ
import Derived.Test.YtlgajongmkhcnaaGreatDoorQS
set_option linter.unusedVariables false
set_option linter.unusedSimpArgs false
set_option maxHeartbeats 32000000
namespace Go.Proofs.YtlgajongmkhcnaaGreatDoor
open Go.RowKit
set_option maxRecDepth 100000
theorem Z4u (c : UInt8) {n s b d : Int} {ps least cents : List UInt8} {l : List UInt16} {vp vl vc vs : Value} {w : World} (ht : TabW w) (hn : 0 <= n /\ n < 4294967296) (hs : 0 <= s /\ s < 4294967296) (hb : 0 <= b /\ b < 4294967296) (hd : -9223372036854775808 <= d /\ d <= 9223372036854775807) (hrp : RdBytes w vp ps) (hrl : RdBytes w vl least) (hrc : RdBytes w vc cents) (hrs : Z8e w vs l)
 (hpl : ps.length <= maxLen) (hll : least.length <= maxLen) (hcl : cents.length <= maxLen) (hsl : l.length <= maxLen) :
 Calls Tryz.prog 4 #[.int .u32 n, .int .u32 s, vp, vl, vc, vs, .int .u32 b, .int .u8 (c.toNat : Int), .int .i64 d] w fun e w' => e = .returned (.bool true) /\ Below w.1.size w w' := by
 obtain ⟨nN, rfl⟩ : ∃ nN : Nat, n = (nN : Int) := ⟨n.toNat, (Int.toNat_of_nonneg hn.1).symm⟩
 obtain ⟨bN, rfl⟩ : ∃ bN : Nat, b = (bN : Int) := ⟨b.toNat, (Int.toNat_of_nonneg hb.1).symm⟩
 exact Zdc nN ps s bN c.toNat d vp vl vc vs _ _ (Z7e bN) w ht ⟨ZhY s least cents l 100 (by decide), ZaQ _ _ _⟩ (Zjn (by omega) hrp hpl) (ZiU hs.1 hs.2 (by omega) hrl hrc hrs hll hcl hsl (by decide)) (Zgi bN) (ZaB bN _) c.toNat_lt hd
end Go.Proofs.YtlgajongmkhcnaaGreatDoor
namespace Go.Proofs.YtlgajongmkhcnaaGreatDoor
open Go.ChangeShapes Go.WideShapes Go.ChangeAt Go.RowKit
open Go.ChangeMaps (open_string shut_string)
set_option maxRecDepth 100000 in
theorem Z3F (os : Os) (started : os.Started) (H : Type) (enc : TypeId × Value -> H) :
 ReturnsInHanded {} Tryz.checked os 4 .any (fun w args => (Rows.manifestHoldsSpec.pre enc Tryz.prog Tryz.f4 Rows.manifestHoldsRow.domain false w args /\ laidMetH Tryz.prog Rows.manifestHoldsRow.laid w) /\ sizedMet enc Tryz.prog Tryz.f4 (OpenSpec.ofChange Rows.manifestHoldsSpec) false w args)
  (Rows.manifestHoldsSpec.post enc Tryz.prog Tryz.f4 false true false false) := by
 refine Z6a (C := Tryz.checked) (l := Rows.manifestHoldsRow.laid) own started (by kernel_rfl) Tryz.func4
  (ChangeSpec.witness_shaped (enc := enc) (C := Tryz.checked) (os := os) (X := fun w _ => laidMetH Tryz.prog Rows.manifestHoldsRow.laid w) false (World.laidAll Tryz.prog os Rows.manifestHoldsRow.laid) #[.int .u32 0, .int .u32 0, .slice none 0 0, .slice none 0 0, .slice none 0 0, .slice none 0 0, .int .u32 0, .int .u8 0, .int .i64 0] 8 (World.laidAll_os _ _ _)
   (World.shaped_of_ZipB (by kernel_rfl) (by kernel_rfl)) (by kernel_rfl) (by kernel_rfl) (by kernel_rfl)
   (by rw [MakeChecks.laidMetH_plain _ _ _ (by kernel_rfl)]; exact laidMet_laidAll _ (by kernel_rfl) (by kernel_rfl))) ?_
 intro W base args ds gs before hval0 hW hwt hsh hlaid
 have hval : ∀ (j : Nat) t v, Tryz.f4.params[j]? = some t -> args[j]? = some v -> Value.okWide Tryz.prog W .any base t v := hval0
 have hW' := hW
 obtain ⟨p, q, hA0, hV, rfl, _, _⟩ := hW
 have hA : DataW.TrodAll enc Tryz.prog W 0 (fun _ => true) true Tryz.f4.params.toList args.toList ds p := hA0
 rw [Tryz.params4] at hA hval
 obtain ⟨rfl, rfl⟩ := trodVars_none hV
 have ht := Zai hlaid (by kernel_rfl) (by kernel_rfl)
 have hA1 := hA
 obtain ⟨v0, w0, d0, e0, p0, q0, a0, rfl, rfl, h0, hr0⟩ := trodAll_cons hA
 obtain ⟨v1, w1, d1, e1, p1, q1, a1, rfl, rfl, h1, hr1⟩ := trodAll_cons hr0
 obtain ⟨v2, w2, d2, e2, p2, q2, a2, rfl, rfl, h2, hr2⟩ := trodAll_cons hr1
 obtain ⟨v3, w3, d3, e3, p3, q3, a3, rfl, rfl, h3, hr3⟩ := trodAll_cons hr2
 obtain ⟨v4, w4, d4, e4, p4, q4, a4, rfl, rfl, h4, hr4⟩ := trodAll_cons hr3
 obtain ⟨v5, w5, d5, e5, p5, q5, a5, rfl, rfl, h5, hr5⟩ := trodAll_cons hr4
 obtain ⟨v6, w6, d6, e6, p6, q6, a6, rfl, rfl, h6, hr6⟩ := trodAll_cons hr5
 obtain ⟨v7, w7, d7, e7, p7, q7, a7, rfl, rfl, h7, hr7⟩ := trodAll_cons hr6
 obtain ⟨v8, w8, d8, e8, p8, q8, a8, rfl, rfl, h8, hr8⟩ := trodAll_cons hr7
 obtain ⟨a9, rfl, rfl⟩ := trodAll_nil hr8
 subst a9
 subst a8
 subst a7
 subst a6
 subst a5
 subst a4
 subst a3
 subst a2
 subst a1
 have hargs : args = #[v0, v1, v2, v3, v4, v5, v6, v7, v8] := by cases args; simp_all
 subst hargs
 clear a0
 obtain ⟨x0, rfl, _, _, g0⟩ := open_int Tryz.underlying22 (hval 0 22 v0 rfl rfl) h0
 have b0 := Z5Z g0
 obtain ⟨x1, rfl, _, _, g1⟩ := open_int Tryz.underlying22 (hval 1 22 v1 rfl rfl) h1
 have b1 := Z5Z g1
 obtain ⟨y2, r2, l2, z2⟩ := Z2t (hval 2 23 v2 rfl rfl) h2
 obtain ⟨y3, r3, l3, z3⟩ := Z2t (hval 3 23 v3 rfl rfl) h3
 obtain ⟨y4, r4, l4, z4⟩ := Z2t (hval 4 23 v4 rfl rfl) h4
 obtain ⟨y5, r5, l5, z5⟩ := Z7h (hval 5 24 v5 rfl rfl) h5
 obtain ⟨x6, rfl, _, _, g6⟩ := open_int Tryz.underlying22 (hval 6 22 v6 rfl rfl) h6
 have b6 := Z5Z g6
 obtain ⟨x7, rfl, _, _, g7⟩ := open_int Tryz.underlying5 (hval 7 5 v7 rfl rfl) h7
 obtain ⟨c7, rfl⟩ := Zbr g7
 obtain ⟨x8, rfl, _, _, g8⟩ := open_int Tryz.underlying3 (hval 8 3 v8 rfl rfl) h8
 have b8 := Zb1 g8
 clear hA0 hval0
 simp only [List.append_nil] at hW'
 refine (Z4u c7 ht b0 b1 b6 b8 r2 r3 r4 z5 l2 l3 l4 l5).mono fun e W' ⟨he, bel⟩ => ?_
 subst he
 exact ⟨_, rfl, _, _, _, [], _, [], hW', trodAll_mk1 (shut_bool Tryz.underlying4 _), Zaa laidOut bel (by kernel_rfl) hA1 (fun x hx => by simpa using hW'.lt x (by simpa using hx)), rfl, bel.frame _, fun h => by cases h⟩
theorem manifestHolds_holds : Rows.ManifestHoldsSaid :=
 OpenClaim.holds_of_wide 4 Tryz.f4 rfl rfl rfl rfl rfl rfl rfl ⟨rfl, rfl, rfl, rfl, rfl⟩ rfl rfl rfl rfl rfl (by kernel_rfl) Tryz.func4 (by kernel_rfl)
  (of_decide_eq_true (by kernel_rfl)) (by unfold Func.isWrapper; first | (rw [if_pos (by decide +kernel)]; kernel_rfl) | (rw [if_neg (by decide +kernel)]; exact ⟨rfl, rfl⟩))
  (fun os started H enc _ => Z3F os started H enc)
theorem manifestHolds_card : Rows.ManifestHoldsCardSaid :=
 Claim7.holds_tied_plain_at .later [] [.data, .data, .data] true (true, "90399fa6d9059495c10ab5e384f2639377445f063ac88c2bad8853051b50922e") false manifestHolds_holds (fun _ h => by cases h) (by kernel_rfl) (fun _ h => by cases h) manifestHolds_row_tie rfl ⟨rfl, rfl⟩ (by kernel_rfl) rfl
  (fun f fn hf hfn => by
   obtain rfl : f = 4 := Option.some.inj ((show Tryz.prog.funcNamed "letterbag/letterbaglaw27.ManifestHolds" = some 4 by kernel_rfl).symm.trans hf) |>.symm
   obtain rfl : fn = Tryz.f4 := (Option.some.inj (Tryz.func4.symm.trans hfn)).symm
   exact ⟨by kernel_rfl, fun j t ht => by
    rw [Tryz.params4] at ht
    have hm : t ∈ [22, 22, 23, 23, 23, 24, 22, 5, 3] := by simpa using Array.mem_of_getElem? ht
    have hall : ([22, 22, 23, 23, 23, 24, 22, 5, 3].all fun u => !Tryz.prog.wantsStandIn u) = true := by kernel_rfl
    exact (show Tryz.prog.wantsStandIn t = false by simpa using List.all_eq_true.1 hall t hm)⟩)
  (by kernel_rfl)
end Go.Proofs.YtlgajongmkhcnaaGreatDoor
