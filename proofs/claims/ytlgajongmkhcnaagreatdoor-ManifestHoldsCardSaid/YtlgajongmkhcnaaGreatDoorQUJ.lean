import Derived.Test.YtlgajongmkhcnaaGreatDoorQUI
set_option maxRecDepth 100000
set_option linter.unusedVariables false
set_option linter.unusedSimpArgs false
set_option maxHeartbeats 32000000
namespace Go.Proofs.YtlgajongmkhcnaaGreatDoor
open Go.RowKit Go.Sort
theorem ZbA (n : Int) (by_ : Nat) (vl vc vs : Value) (least cents : List UInt8) (l : List UInt16) (most : Nat) (w : World) (rB : 0 <= n) (rC : n < 4294967296) (rY : by_ < 4294967296) (rZ : RdBytes w vl least) (rD : RdBytes w vc cents) (pP : Z7H w vs l)
 (sR : least.length <= maxLen) (rE : cents.length <= maxLen) (sS : l.length <= maxLen) (hm : most <= 2000) (hx : vs ≠ .slice none 0 0) :
 Calls Tryz.prog 10 #[.int .u32 n, vl, vc, vs, .int .i64 most, .int .u32 by_] w fun e w' => ∃ al cl ap cp gz, e = .returned (.tuple #[.slice al (Z1O (bitsOf n) (Z2s least 3) cents).length cl, .agg #[.int .u8 1, .int .u8 1, .string ⟨#[49, 48, 48, 50, 51]⟩, .slice ap (l.take most).length cp], .slice (some ⟨gz, 0, none⟩) (l.take most).length (l.take most).length, Z4J (Z6X by_)]) /\ Below w.1.size w w' /\
  OwnsLv w' w.1.size (.slice al (Z1O (bitsOf n) (Z2s least 3) cents).length cl) (Z1O (bitsOf n) (Z2s least 3) cents) /\ OwnsP w' w.1.size (.slice ap (l.take most).length cp) (Z04 (l.take most)).ps /\ IntsAt w' gz (Z3W (Z1O (bitsOf n) (Z2s least 3) cents) (Z04 (l.take most))) /\ w.1.size <= gz := by
 obtain ⟨a, ca, rfl, rF⟩ := rZ
 obtain ⟨pP, rG⟩ := pP
 have sA := pP
 obtain ⟨as_, cs_, rfl, sB⟩ := sA
 have rH := Z0 pP
 have qJ : (as_ = none /\ cs_ = 0 /\ l.length = 0) \/ (∃ sb so sp, as_ = some ⟨sb, so, sp⟩ /\ l.length <= cs_) := by
  rcases rG with h | ⟨b, off, spot, cap, h, hc⟩
  ·injection h with h1 h2 h3
   exact .inl ⟨h1, h3, h2⟩
  ·injection h with h1 h2 h3
   exact .inr ⟨b, off, spot, h1, by omega⟩
 have rI := Z0 qJ
 have HX : Hid (as_ ≠ none) := by rintro rfl; rcases qJ with ⟨_, rfl, h3⟩ | ⟨sb, so, sp, h, _⟩; exact hx (by rw [h3]); cases h
 clear hx
 obtain ⟨mm, rJ⟩ : ∃ mm : Nat, min (l.length : Int) (most : Int) = (mm : Int) := ⟨min l.length most, by omega⟩
 have pI : Hid (l.take mm = l.take most /\ mm <= l.length) := by
  refine ⟨?_, by omega⟩
  by_cases h : l.length <= most
  ·rw [Kas (by omega), Kas h]
  ·rw [show mm = most by omega]
 have rK := Z0 rD
 have sC := Z0 rF
 obtain ⟨i0, hi⟩ := info_parts Tryz.infoU8
 have HI := Z0 hi
 clear hi rF sB rD pP rG qJ
 have rL : HasPlan (Z1O (bitsOf n) (Z2s least 3) cents) (Z04 (l.take most)) := Z5z _ _ _ _ (by rw [Kax]; omega)
 have pQ : (Z04 (l.take most)).ps.length = (l.take most).length := Z2A _ _
 obtain ⟨ls, pR⟩ : ∃ z, z = Z1O (bitsOf n) (Z2s least 3) cents := ⟨_, rfl⟩
 obtain ⟨nl, qF⟩ : ∃ z, z = (Z1O (bitsOf n) (Z2s least 3) cents).length := ⟨_, rfl⟩
 obtain ⟨np, qG⟩ : ∃ z, z = (l.take most).length := ⟨_, rfl⟩
 have rM : ls.length = nl := by rw [pR, qF]
 rw [<- qF, <- qG]
 have rN := Z0 qF
 have rO := Z0 qG
 have rP := Z0 pR
 have qH := Z0 (fun W al cl ap cp (hr : RdLevs W (.slice al ls.length cl) ls) (rQ : RdPces W (.slice ap (l.take most).length cp) (Z04 (l.take most)).ps) => Zf9 (pR ▸ rL) hr rQ)
 rw [pQ, <- qG, rM] at qH
 rw [<- pR]
 unfold Z2r at qH
 have qI : Hid (∀ W al cl ap cp (hr : RdLevs W (.slice al nl cl) ls) (rQ : RdPces W (.slice ap np cp) (Z04 (l.take most)).ps), Calls Tryz.prog 27 #[.slice al nl cl, .agg #[.int .u8 1, .int .u8 1, .string ⟨#[49, 48, 48, 50, 51]⟩, .slice ap np cp]] W fun e w' => ∃ g, e = .returned (.tuple #[.slice (some ⟨g, 0, none⟩) np np, .int .i64 0]) /\ Below W.1.size W w' /\ W.1.size <= g /\ IntsAt w' g (Z3W ls (Z04 (l.take most)))) := qH
 obtain ⟨m24, sD⟩ : ∃ z, z = Z04 (l.take most) := ⟨_, rfl⟩
 have sE : bits .and .u32 (by_ : Int) 15 = ((by_ % 16 : Nat) : Int) := Z2G by_ 15 4 rY rfl (by decide)
 have sF : bits .and .u32 ((by_ : Int) / 16) 127 = ((by_ / 16 % 128 : Nat) : Int) := Z2G (by_ / 16) 127 7 (by omega) rfl (by decide)
 have sG : bits .and .u32 ((by_ : Int) / 2048) 3 = ((by_ / 2048 % 4 : Nat) : Int) := Z2G (by_ / 2048) 3 2 (by omega) rfl (by decide)
 have sH : bits .and .u32 ((by_ : Int) / 8192) 3 = ((by_ / 8192 % 4 : Nat) : Int) := Z2G (by_ / 8192) 3 2 (by omega) rfl (by decide)
 obtain ⟨q1, qK⟩ : ∃ q, q = by_ % 16 := ⟨_, rfl⟩
 obtain ⟨q2, qL⟩ : ∃ q, q = by_ / 16 % 128 := ⟨_, rfl⟩
 obtain ⟨q3, qM⟩ : ∃ q, q = by_ / 2048 % 4 := ⟨_, rfl⟩
 obtain ⟨q4, qN⟩ : ∃ q, q = by_ / 8192 % 4 := ⟨_, rfl⟩
 have pJ : Hid (Z4J (Z6X by_) = .agg #[.int .i64 (1 + (q1 : Int)), .int .i64 (20 + (q2 : Int)), .int .i64 (1 + (q3 : Int)), .int .i64 (1 + (q4 : Int))]) := by rw [qK, qL, qM, qN]; exact rfl
 rw [<- qK] at sE
 rw [<- qL] at sF
 rw [<- qM] at sG
 rw [<- qN] at sH
 have sI : q1 < 16 /\ q2 < 128 /\ q3 < 4 /\ q4 < 4 := by omega
 obtain ⟨sT, sU, sV, sW⟩ := sI
 rw [pJ.out]
 clear qF qG pR rM qH rL pQ sD m24 qK qL qM qN
 go_enter Tryz.func10, Tryz.ntmps10
 go_wp2_with (at_make; refine wpList_make_own _ rfl _ _ 23 rfl (w.1.size + 2) 5 i0 (.int .u8 0) 1 Tryz.underlying23 HI.out.1 HI.out.2.1 HI.out.2.2.1 _ _ _ 3 rfl (by first | rfl | simp) rfl (by rw [HI.out.2.2.2]; omega) (by unfold maxLen; omega) (by simp) ?_; intro w1 rR pB)
 obtain ⟨w0, qO⟩ : ∃ w0, w0 = (w.alloc (.cells #[.int .u8 0, .int .u8 0, .string ⟨#[]⟩, .slice none 0 0] 34)).alloc (.cells #[.int .i64 0, .int .i64 0, .int .i64 0, .int .i64 0] 37) := ⟨_, rfl⟩
 rw [<- qO] at pB
 obtain ⟨k1, k2, k3, k4⟩ := Z8M qO
 have qP := pB.size
 have rS : Below w.1.size w w1 := k4.grown pB (by omega) (fun r e => by cases e)
 have rT : w1.1[w.1.size]? = _ := (pB.block _ (by omega) (by simp)).trans k1
 have rU : w1.1[w.1.size + 1]? = _ := (pB.block _ (by omega) (by simp)).trans k2
 rw [k3] at qP
 clear pB qO k1 k2 k3 k4
 go_loopw [16, 17] (fun v i wr => ∃ k : Nat, k <= 3 /\ k <= least.length /\ i = .int .i64 k /\ Below w.1.size w wr /\ w.1.size + 2 <= wr.1.size /\ wr.1[w.1.size]? = some (.cells #[.int .u8 0, .int .u8 0, .string ⟨#[]⟩, .slice none 0 0] 34 (0, 0)) /\
  wr.1[w.1.size + 1]? = some (.cells #[.int .i64 0, .int .i64 0, .int .i64 0, .int .i64 0] 37 (0, 0)) /\ wr.ownsRow (w.1.size + 2) 5 1 v k ((Z2s least k).map Zb1)) (fun _ i _ => 3 - (intOf i).toNat)
 case atStart => exact ⟨0, by omega, ZE _, rfl, rS, qP, rT, rU, by simpa [Z2s, Z6] using rR⟩
 case round =>
  clear rS qP rT rU rR
  obtain ⟨k, sX, rV, rfl, hB, hz, hM, hK, hO⟩ := hrel
  have HM := Z0 hM
  have HK := Z0 hK
  have HO := Z0 hO
  clear hM hK
  by_cases rW : k < least.length
  ·by_cases h3 : k < 3
   ·obtain ⟨g, off, rfl, hg, rX⟩ := sC.out (by omega)
    have e1 : wr.cell? ⟨g, off + k, none⟩ = some (.int .u8 (least[k].toNat : Int)) := (hB.cell (p := ⟨g, off + k, none⟩) hg).trans (rX k rW)
    have qQ := Zan rW
    obtain ⟨c, hc⟩ : ∃ c, c = least[k] := ⟨_, rfl⟩
    rw [<- hc] at e1 qQ
    have sY : c.toNat < 256 := c.toNat_lt
    have sJ : ((c.toNat : Int)).tmod 8 = ((c % 8).toNat : Int) := by rw [Kbn (Kce _), UInt8.toNat_mod]; rfl
    have sK : ((c.toNat : Int)) % 8 = ((c % 8).toNat : Int) := by rw [UInt8.toNat_mod]; rfl
    have sL : (c % 8).toNat < 8 := by rw [UInt8.toNat_mod]; exact Kcj _ (by decide)
    have qR := Z0 qQ
    obtain ⟨d, hd⟩ : ∃ d, d = c % 8 := ⟨_, rfl⟩
    rw [<- hd] at sJ sK sL qR
    clear rX hc qQ hd
    rcases Joins.ownsRow_forms hO with ⟨rfl, pQ⟩ | ⟨g2, cap2, rfl⟩
    ·have sZ := Z0 pQ
     clear pQ hO
     have qS := Z0 (Z0f wr [Zb1 d] 5)
     go_wp2_with (at_builtin; refine wpList_append_lies _ rfl _ _ 23 rfl (w.1.size + 2) 5 i0 (.int .u8 0) 1 1 Tryz.underlying23 HI.out.1 HI.out.2.1 HI.out.2.2.1 HI.out.2.2.2 rfl (by decide) _ k _ rfl (HO.out.alloc _) ⟨wr.1.size, 0, none⟩ 1 1 [Zb1 d] rfl rfl qS.out (by simp [Zb1, Value.oneCell']) (by decide) (by unfold maxLen; omega) (by omega) (by simp; omega) _ rfl ?_; intro g9 cap9 w9 qT pB sM sN)
     go_roundw
     case rel =>
      have pA : ∀ b, b < w.1.size + 2 -> w9.1[b]? = wr.1[b]? := fun b hb => (pB.block b (by rw [Z6]; omega) (fun e => by have := (HO.out.lt b e.symm).1; omega)).trans (ZB _ _ _ (by omega))
      refine ⟨k + 1, by omega, by omega, by go_num, (hB.alloc hB.size _).grown pB (by simp; omega) (fun r e => by have := (HO.out.lt r e).1; omega), ?_, (pA _ (by omega)).trans HM.out, (pA _ (by omega)).trans HK.out, ?_⟩
      ·have := pB.size
       rw [Z6] at this; omega
      ·rw [qR.out, ZD]
       exact qT
     case measure => simp [intOf]; omega
    ·clear hO
     have qS := Z0 (Z0f wr [Zb1 d] 5)
     go_wp2_with (at_builtin; refine wpList_append_lies _ rfl _ _ 23 rfl (w.1.size + 2) 5 i0 (.int .u8 0) 1 1 Tryz.underlying23 HI.out.1 HI.out.2.1 HI.out.2.2.1 HI.out.2.2.2 rfl (by decide) _ k _ rfl (HO.out.alloc _) ⟨wr.1.size, 0, none⟩ 1 1 [Zb1 d] rfl rfl qS.out (by simp [Zb1, Value.oneCell']) (by decide) (by unfold maxLen; omega) (by omega) (by simp; omega) _ rfl ?_; intro g9 cap9 w9 qT pB sM sN)
     go_roundw
     case rel =>
      have pA : ∀ b, b < w.1.size + 2 -> w9.1[b]? = wr.1[b]? := fun b hb => (pB.block b (by rw [Z6]; omega) (fun e => by have := (HO.out.lt b e.symm).1; omega)).trans (ZB _ _ _ (by omega))
      refine ⟨k + 1, by omega, by omega, by go_num, (hB.alloc hB.size _).grown pB (by simp; omega) (fun r e => by have := (HO.out.lt r e).1; omega), ?_, (pA _ (by omega)).trans HM.out, (pA _ (by omega)).trans HK.out, ?_⟩
      ·have := pB.size
       rw [Z6] at this; omega
      ·rw [qR.out, ZD]
       exact qT
     case measure => simp [intOf]; omega
   ·have pS : Z2s least k = Z2s least 3 := by rw [show k = 3 by omega]
    rcases rI.out with ⟨rfl, rfl, pT⟩ | ⟨sb, so, sp, rfl, sO⟩
    ·obtain rfl : l = [] := Kag.1 pT
     obtain rfl : mm = 0 := Nat.le_zero.1 pI.out.2
     have qU : min (0 : Int) (most : Int) = 0 := by omega
     have sP : min (([] : List UInt16).length : Int) (most : Int) = 0 := qU
     clear rJ pT
     exact absurd HX.out (by simp)
    ·have sQ : mm <= l.length := pI.out.2
     have pK := Z0 (Z9c HO.out rV pS rB rC (rK.out.below2 hB) rE rN.out)
     have pU := Z0 (Z4V (cap := cs_) ((rH.out.below hB).take pI.out.2) pI.out.1 hm rO.out)
     rw [<- rP.out] at pK
     clear pS hO
     go_upto_region 6 with fail
     go_cut [18, 19] from 41 to 52 (fun x p wx => Zee w wr nl np ls (Z04 (l.take most)).ps x p wx)
     case first =>
      go_region_with (first
       | (go_at_call 25; refine (pK.out _ (by first | exact (Z9 _ wr).drew | exact bL | exact (Z9 _ wr).drew.alloc (Z1 _) _ | exact ((Z9 _ wr).alloc (Z1 _) _).drew | exact bL.alloc bL.size _)).mono ?_; rintro e wM ⟨al, cl, rfl, pC, bM, pF⟩; (try (have zM : wM.1[wr.1.size]? = some (.cells #[.int .u8 0, .int .u8 0, .string ⟨#[]⟩, .slice none 0 0] 34 (0, 0)) := (pC.block _ (by show wr.1.size < (wr.alloc _).1.size; rw [Z6]; omega)).trans (Z02 wr _)); (obtain ⟨zM0, zM1, zM2, zM3, yM0, yM1, yM2, yM3⟩ := Z0o zM); (have gz := Z1 wr.1.size)); (try (have zM : wM.1[wL.1.size]? = some (.cells #[.int .u8 0, .int .u8 0, .string ⟨#[]⟩, .slice none 0 0] 34 (0, 0)) := (pC.block _ (by show wL.1.size < (wL.alloc _).1.size; rw [Z6]; omega)).trans (Z02 wL _)); (obtain ⟨zM0, zM1, zM2, zM3, yM0, yM1, yM2, yM3⟩ := Z0o zM); (have gz := bL.size)); (try (have zM := (pC.block _ (Z5.1 zL).1).trans zL); (obtain ⟨zM0, zM1, zM2, zM3, yM0, yM1, yM2, yM3⟩ := Z0o zM)); (try (have pV : OwnsP wM wr.1.size (.slice ap np cp) (Z04 (l.take most)).ps := by first | exact Z09 pG pC | exact Z09 (Z09 pG ((Z9 _ wL).alloc (Z1 _) _)) pC)))
       | (go_at_call 26; refine (pU.out _ (by first | exact (Z9 _ wr).drew | exact bM | exact (Z9 _ wr).drew.alloc (Z1 _) _ | exact ((Z9 _ wr).alloc (Z1 _) _).drew | exact bM.alloc bM.size _)).mono ?_; rintro e wL ⟨ap, cp, rfl, pD, bL, pG⟩; (try (have zL : wL.1[wr.1.size]? = some (.cells #[.int .u8 0, .int .u8 0, .string ⟨#[]⟩, .slice none 0 0] 34 (0, 0)) := (pD.block _ (by show wr.1.size < (wr.alloc _).1.size; rw [Z6]; omega)).trans (Z02 wr _)); (obtain ⟨zL0, zL1, zL2, zL3, yL0, yL1, yL2, yL3⟩ := Z0o zL); (have gz := Z1 wr.1.size)); (try (have zL : wL.1[wM.1.size]? = some (.cells #[.int .u8 0, .int .u8 0, .string ⟨#[]⟩, .slice none 0 0] 34 (0, 0)) := (pD.block _ (by show wM.1.size < (wM.alloc _).1.size; rw [Z6]; omega)).trans (Z02 wM _)); (obtain ⟨zL0, zL1, zL2, zL3, yL0, yL1, yL2, yL3⟩ := Z0o zL); (have gz := bM.size)); (try (have zL := (pD.block _ (Z5.1 zM).1).trans zM); (obtain ⟨zL0, zL1, zL2, zL3, yL0, yL1, yL2, yL3⟩ := Z0o zL)); (try (have pW : OwnsLv wL wr.1.size (.slice al nl cl) ls := by first | exact pF.below pD | exact (pF.below ((Z9 _ wM).alloc (Z1 _) _)).below pD))))
      all_goals
       go_wp2_with fail
       go_meet
       first
        | exact Z1E bL pW pG
        | exact Z1E bM pF pV
        | exact Z1Z (x := #[]) bL gz zL pW pG
        | exact Z1Z (x := #[]) bM gz zM pF pV
     case rest =>
      obtain ⟨wk, qV⟩ : ∃ x, x = wc := ⟨_, rfl⟩
      subst qV
      obtain ⟨al, cl, g, ap, cp, rfl, rfl, hg, pA, pH, pX, pY⟩ := hcut
      obtain ⟨m0, m1, m2, m3⟩ := Z0H pH
      have qW := (Z5.1 pH).1
      have qX := Z0 pH
      have pZ := Z0 pX
      have pJ := Z0 pY
      clear pK pU pH pX pY
      go_upto_region 8 with (go_at_call 27; refine (qI.out _ al cl ap cp pZ.out.reads (RdPces.of_owns pJ.out)).mono ?_; rintro e w3 ⟨gz, rfl, pE, qA, qB⟩)
      have qC := (pE.block _ qW).trans qX.out
      have pL := (pE.block _ (by have := pA.size; omega)).trans ((pA.block w.1.size (by omega)).trans HM.out)
      have pM := (pE.block _ (by have := pA.size; omega)).trans ((pA.block (w.1.size + 1) (by omega)).trans HK.out)
      clear m0 m1 m2 m3
      obtain ⟨m0, m1, m2, m3⟩ := Z0H qC
      obtain ⟨x0, x1, x2, x3, f0, f1, f2, f3⟩ := Z0o pL
      obtain ⟨r0, r1, r2, r3, d0, d1, d2, d3⟩ := Z0o pM
      have qY := Z0 pL
      have qZ := Z0 pM
      have rA := Z0 qB
      have pN := Z0 pE
      have qD := Z0 qA
      clear qC pL pM qB pE qA qI
      go_big_region
      go_wp2_with fail
      have pO := Z4X (Z6q (B := w.1.size + 2) (t1 := 34) (t2 := 37) (hB.trans ((pA.trans (pN.out.mono pA.size)).mono hB.size)) ⟨Z1 _, by omega⟩ ⟨by omega, by omega⟩ (by omega) (by decide) (by decide) qY.out qZ.out (OwnsLv.mono (pZ.out.below pN.out) hz) (OwnsP.mono (Z09 pJ.out pN.out) hz) rA.out (by have := qD.out; have := pA.size; omega) (.int .u8 1) (.int .u8 1) (.string ⟨#[49, 48, 48, 50, 51]⟩) (.slice ap np cp) (.int .i64 (1 + (q1 : Int))) (.int .i64 (20 + (q2 : Int))) (.int .i64 (1 + (q3 : Int))) (.int .i64 (1 + (q4 : Int))))
      unfold Z2a at pO
      obtain ⟨WF, qE⟩ : ∃ WF, WF = ((((((((w3.setCell ⟨w.1.size, 0, none⟩ (.int .u8 1)).setCell ⟨w.1.size, 1, none⟩ (.int .u8 1)).setCell ⟨w.1.size, 2, none⟩ (.string ⟨#[49, 48, 48, 50, 51]⟩)).setCell ⟨w.1.size, 3, none⟩ (.slice ap np cp)).setCell ⟨w.1.size + 1, 0, none⟩ (.int .i64 (1 + (q1 : Int)))).setCell ⟨w.1.size + 1, 1, none⟩ (.int .i64 (20 + (q2 : Int)))).setCell ⟨w.1.size + 1, 2, none⟩ (.int .i64 (1 + (q3 : Int)))).setCell ⟨w.1.size + 1, 3, none⟩ (.int .i64 (1 + (q4 : Int)))).drew := ⟨_, rfl⟩
      rw [<- qE] at pO ⊢
      obtain ⟨e1, e2, e3, e4, e5, e6⟩ := pO
      clear qE
      refine bodyPost_ret (Z2x rfl _ _ w.1.size (w.1.size + 1) _ _ rfl rfl (run_loadVar_row _ _ _ _ _ _ _ e1 Tryz.underlying34 rfl (by kernel_rfl)) (run_loadVar_row _ _ _ _ _ _ _ e2 Tryz.underlying37 rfl (by kernel_rfl))) rfl ?_
      exact ⟨al, cl, ap, cp, gz, rfl, e3, e4, e5, e6, by have := qD.out; have := pA.size; omega⟩
  ·have pS : Z2s least k = Z2s least 3 := by
    unfold Z2s
    rw [Kas (by omega), Kas (by omega)]
   rcases rI.out with ⟨rfl, rfl, pT⟩ | ⟨sb, so, sp, rfl, sO⟩
   ·obtain rfl : l = [] := Kag.1 pT
    obtain rfl : mm = 0 := Nat.le_zero.1 pI.out.2
    have qU : min (0 : Int) (most : Int) = 0 := by omega
    have sP : min (([] : List UInt16).length : Int) (most : Int) = 0 := qU
    clear rJ pT
    exact absurd HX.out (by simp)
   ·have sQ : mm <= l.length := pI.out.2
    have pK := Z0 (Z9c HO.out rV pS rB rC (rK.out.below2 hB) rE rN.out)
    have pU := Z0 (Z4V (cap := cs_) ((rH.out.below hB).take pI.out.2) pI.out.1 hm rO.out)
    rw [<- rP.out] at pK
    clear pS hO
    go_upto_region 6 with fail
    go_cut [18, 19] from 41 to 52 (fun x p wx => Zee w wr nl np ls (Z04 (l.take most)).ps x p wx)
    case first =>
     go_region_with (first
      | (go_at_call 25; refine (pK.out _ (by first | exact (Z9 _ wr).drew | exact bL | exact (Z9 _ wr).drew.alloc (Z1 _) _ | exact ((Z9 _ wr).alloc (Z1 _) _).drew | exact bL.alloc bL.size _)).mono ?_; rintro e wM ⟨al, cl, rfl, pC, bM, pF⟩; (try (have zM : wM.1[wr.1.size]? = some (.cells #[.int .u8 0, .int .u8 0, .string ⟨#[]⟩, .slice none 0 0] 34 (0, 0)) := (pC.block _ (by show wr.1.size < (wr.alloc _).1.size; rw [Z6]; omega)).trans (Z02 wr _)); (obtain ⟨zM0, zM1, zM2, zM3, yM0, yM1, yM2, yM3⟩ := Z0o zM); (have gz := Z1 wr.1.size)); (try (have zM : wM.1[wL.1.size]? = some (.cells #[.int .u8 0, .int .u8 0, .string ⟨#[]⟩, .slice none 0 0] 34 (0, 0)) := (pC.block _ (by show wL.1.size < (wL.alloc _).1.size; rw [Z6]; omega)).trans (Z02 wL _)); (obtain ⟨zM0, zM1, zM2, zM3, yM0, yM1, yM2, yM3⟩ := Z0o zM); (have gz := bL.size)); (try (have zM := (pC.block _ (Z5.1 zL).1).trans zL); (obtain ⟨zM0, zM1, zM2, zM3, yM0, yM1, yM2, yM3⟩ := Z0o zM)); (try (have pV : OwnsP wM wr.1.size (.slice ap np cp) (Z04 (l.take most)).ps := by first | exact Z09 pG pC | exact Z09 (Z09 pG ((Z9 _ wL).alloc (Z1 _) _)) pC)))
      | (go_at_call 26; refine (pU.out _ (by first | exact (Z9 _ wr).drew | exact bM | exact (Z9 _ wr).drew.alloc (Z1 _) _ | exact ((Z9 _ wr).alloc (Z1 _) _).drew | exact bM.alloc bM.size _)).mono ?_; rintro e wL ⟨ap, cp, rfl, pD, bL, pG⟩; (try (have zL : wL.1[wr.1.size]? = some (.cells #[.int .u8 0, .int .u8 0, .string ⟨#[]⟩, .slice none 0 0] 34 (0, 0)) := (pD.block _ (by show wr.1.size < (wr.alloc _).1.size; rw [Z6]; omega)).trans (Z02 wr _)); (obtain ⟨zL0, zL1, zL2, zL3, yL0, yL1, yL2, yL3⟩ := Z0o zL); (have gz := Z1 wr.1.size)); (try (have zL : wL.1[wM.1.size]? = some (.cells #[.int .u8 0, .int .u8 0, .string ⟨#[]⟩, .slice none 0 0] 34 (0, 0)) := (pD.block _ (by show wM.1.size < (wM.alloc _).1.size; rw [Z6]; omega)).trans (Z02 wM _)); (obtain ⟨zL0, zL1, zL2, zL3, yL0, yL1, yL2, yL3⟩ := Z0o zL); (have gz := bM.size)); (try (have zL := (pD.block _ (Z5.1 zM).1).trans zM); (obtain ⟨zL0, zL1, zL2, zL3, yL0, yL1, yL2, yL3⟩ := Z0o zL)); (try (have pW : OwnsLv wL wr.1.size (.slice al nl cl) ls := by first | exact pF.below pD | exact (pF.below ((Z9 _ wM).alloc (Z1 _) _)).below pD))))
     all_goals
      go_wp2_with fail
      go_meet
      first
       | exact Z1E bL pW pG
       | exact Z1E bM pF pV
       | exact Z1Z (x := #[]) bL gz zL pW pG
       | exact Z1Z (x := #[]) bM gz zM pF pV
    case rest =>
     obtain ⟨wk, qV⟩ : ∃ x, x = wc := ⟨_, rfl⟩
     subst qV
     obtain ⟨al, cl, g, ap, cp, rfl, rfl, hg, pA, pH, pX, pY⟩ := hcut
     obtain ⟨m0, m1, m2, m3⟩ := Z0H pH
     have qW := (Z5.1 pH).1
     have qX := Z0 pH
     have pZ := Z0 pX
     have pJ := Z0 pY
     clear pK pU pH pX pY
     go_upto_region 8 with (go_at_call 27; refine (qI.out _ al cl ap cp pZ.out.reads (RdPces.of_owns pJ.out)).mono ?_; rintro e w3 ⟨gz, rfl, pE, qA, qB⟩)
     have qC := (pE.block _ qW).trans qX.out
     have pL := (pE.block _ (by have := pA.size; omega)).trans ((pA.block w.1.size (by omega)).trans HM.out)
     have pM := (pE.block _ (by have := pA.size; omega)).trans ((pA.block (w.1.size + 1) (by omega)).trans HK.out)
     clear m0 m1 m2 m3
     obtain ⟨m0, m1, m2, m3⟩ := Z0H qC
     obtain ⟨x0, x1, x2, x3, f0, f1, f2, f3⟩ := Z0o pL
     obtain ⟨r0, r1, r2, r3, d0, d1, d2, d3⟩ := Z0o pM
     have qY := Z0 pL
     have qZ := Z0 pM
     have rA := Z0 qB
     have pN := Z0 pE
     have qD := Z0 qA
     clear qC pL pM qB pE qA qI
     go_big_region
     go_wp2_with fail
     have pO := Z4X (Z6q (B := w.1.size + 2) (t1 := 34) (t2 := 37) (hB.trans ((pA.trans (pN.out.mono pA.size)).mono hB.size)) ⟨Z1 _, by omega⟩ ⟨by omega, by omega⟩ (by omega) (by decide) (by decide) qY.out qZ.out (OwnsLv.mono (pZ.out.below pN.out) hz) (OwnsP.mono (Z09 pJ.out pN.out) hz) rA.out (by have := qD.out; have := pA.size; omega) (.int .u8 1) (.int .u8 1) (.string ⟨#[49, 48, 48, 50, 51]⟩) (.slice ap np cp) (.int .i64 (1 + (q1 : Int))) (.int .i64 (20 + (q2 : Int))) (.int .i64 (1 + (q3 : Int))) (.int .i64 (1 + (q4 : Int))))
     unfold Z2a at pO
     obtain ⟨WF, qE⟩ : ∃ WF, WF = ((((((((w3.setCell ⟨w.1.size, 0, none⟩ (.int .u8 1)).setCell ⟨w.1.size, 1, none⟩ (.int .u8 1)).setCell ⟨w.1.size, 2, none⟩ (.string ⟨#[49, 48, 48, 50, 51]⟩)).setCell ⟨w.1.size, 3, none⟩ (.slice ap np cp)).setCell ⟨w.1.size + 1, 0, none⟩ (.int .i64 (1 + (q1 : Int)))).setCell ⟨w.1.size + 1, 1, none⟩ (.int .i64 (20 + (q2 : Int)))).setCell ⟨w.1.size + 1, 2, none⟩ (.int .i64 (1 + (q3 : Int)))).setCell ⟨w.1.size + 1, 3, none⟩ (.int .i64 (1 + (q4 : Int)))).drew := ⟨_, rfl⟩
     rw [<- qE] at pO ⊢
     obtain ⟨e1, e2, e3, e4, e5, e6⟩ := pO
     clear qE
     refine bodyPost_ret (Z2x rfl _ _ w.1.size (w.1.size + 1) _ _ rfl rfl (run_loadVar_row _ _ _ _ _ _ _ e1 Tryz.underlying34 rfl (by kernel_rfl)) (run_loadVar_row _ _ _ _ _ _ _ e2 Tryz.underlying37 rfl (by kernel_rfl))) rfl ?_
     exact ⟨al, cl, ap, cp, gz, rfl, e3, e4, e5, e6, by have := qD.out; have := pA.size; omega⟩
end Go.Proofs.YtlgajongmkhcnaaGreatDoor
