import Derived.Test.YtlgajongmkhcnaaGreatDoorQZ
import Derived.Test.YtlgajongmkhcnaaGreatDoorQI
set_option linter.unusedVariables false
set_option linter.unusedSimpArgs false
set_option maxHeartbeats 32000000
namespace Go.Proofs.YtlgajongmkhcnaaGreatDoor
open Go.RowKit Go.Sort
set_option maxRecDepth 100000
theorem ZaR (n : Int) (by_ : Nat) (vl vc vs : Value) (least cents : List UInt8) (l : List UInt16) (most : Nat) (w : World) (hn0 : 0 <= n) (hn1 : n < 4294967296) (hb1 : by_ < 4294967296) (hrl : RdBytes w vl least) (hrc : RdBytes w vc cents) (hrs : Z8e w vs l)
 (hll : least.length <= maxLen) (hcl : cents.length <= maxLen) (hsl : l.length <= maxLen) (hm : most <= 2000) (hx : vs ≠ .slice none 0 0) :
 Calls Tryz.prog 10 #[.int .u32 n, vl, vc, vs, .int .i64 most, .int .u32 by_] w fun e w' => ∃ al cl ap cp gz, e = .returned (.tuple #[.slice al (Z1C (bitsOf n) (Z2h least 3) cents).length cl, .agg #[.int .u8 1, .int .u8 1, .string ⟨#[49, 48, 48, 50, 51]⟩, .slice ap (l.take most).length cp], .slice (some ⟨gz, 0, none⟩) (l.take most).length (l.take most).length, Z3I (Z7e by_)]) /\ Below w.1.size w w' /\
  OwnsLv w' w.1.size (.slice al (Z1C (bitsOf n) (Z2h least 3) cents).length cl) (Z1C (bitsOf n) (Z2h least 3) cents) /\ OwnsP w' w.1.size (.slice ap (l.take most).length cp) (Z08 (l.take most)).ps /\ IntsAt w' gz (Z4h (Z1C (bitsOf n) (Z2h least 3) cents) (Z08 (l.take most))) /\ w.1.size <= gz := by
 obtain ⟨a, ca, rfl, hca⟩ := hrl
 obtain ⟨hrs, hfm⟩ := hrs
 have hrs' := hrs
 obtain ⟨as_, cs_, rfl, hcs⟩ := hrs'
 have HRS := Z0 hrs
 have hfm2 : (as_ = none /\ cs_ = 0 /\ l.length = 0) \/ (∃ sb so sp, as_ = some ⟨sb, so, sp⟩ /\ l.length <= cs_) := by
  rcases hfm with h | ⟨b, off, spot, cap, h, hc⟩
  ·injection h with h1 h2 h3
   exact .inl ⟨h1, h3, h2⟩
  ·injection h with h1 h2 h3
   exact .inr ⟨b, off, spot, h1, by omega⟩
 have HFM := Z0 hfm2
 have HX : Hid (as_ ≠ none) := by rintro rfl; rcases hfm2 with ⟨_, rfl, h3⟩ | ⟨sb, so, sp, h, _⟩; exact hx (by rw [h3]); cases h
 clear hx
 obtain ⟨mm, hmm⟩ : ∃ mm : Nat, min (l.length : Int) (most : Int) = (mm : Int) := ⟨min l.length most, by omega⟩
 have HMM : Hid (l.take mm = l.take most /\ mm <= l.length) := by
  refine ⟨?_, by omega⟩
  by_cases h : l.length <= most
  ·rw [List.take_of_length_le (by omega), List.take_of_length_le h]
  ·rw [show mm = most by omega]
 have HRC := Z0 hrc
 have HCA := Z0 hca
 obtain ⟨i0, hi⟩ := info_parts Tryz.infoU8
 have HI := Z0 hi
 clear hi hca hcs hrc hrs hfm hfm2
 have hhp : HasPlan (Z1C (bitsOf n) (Z2h least 3) cents) (Z08 (l.take most)) := Z56 _ _ _ _ (by rw [List.length_take]; omega)
 have hpn : (Z08 (l.take most)).ps.length = (l.take most).length := Z2P _ _
 obtain ⟨ls, hls⟩ : ∃ z, z = Z1C (bitsOf n) (Z2h least 3) cents := ⟨_, rfl⟩
 obtain ⟨nl, hnl⟩ : ∃ z, z = (Z1C (bitsOf n) (Z2h least 3) cents).length := ⟨_, rfl⟩
 obtain ⟨np, hnp⟩ : ∃ z, z = (l.take most).length := ⟨_, rfl⟩
 have hlnl : ls.length = nl := by rw [hls, hnl]
 rw [<- hnl, <- hnp]
 have HNL := Z0 hnl
 have HNP := Z0 hnp
 have HLS := Z0 hls
 have HPL := Z0 (fun W al cl ap cp (hr : RdLevs W (.slice al ls.length cl) ls) (hrp : RdPces W (.slice ap (l.take most).length cp) (Z08 (l.take most)).ps) => Ze7 (hls ▸ hhp) hr hrp)
 rw [hpn, <- hnp, hlnl] at HPL
 rw [<- hls]
 unfold Z22 at HPL
 have HPL2 : Hid (∀ W al cl ap cp (hr : RdLevs W (.slice al nl cl) ls) (hrp : RdPces W (.slice ap np cp) (Z08 (l.take most)).ps), Calls Tryz.prog 27 #[.slice al nl cl, .agg #[.int .u8 1, .int .u8 1, .string ⟨#[49, 48, 48, 50, 51]⟩, .slice ap np cp]] W fun e w' => ∃ g, e = .returned (.tuple #[.slice (some ⟨g, 0, none⟩) np np, .int .i64 0]) /\ Below W.1.size W w' /\ W.1.size <= g /\ IntsAt w' g (Z4h ls (Z08 (l.take most)))) := HPL
 obtain ⟨m24, hm24⟩ : ∃ z, z = Z08 (l.take most) := ⟨_, rfl⟩
 have hand1 : bits .and .u32 (by_ : Int) 15 = ((by_ % 16 : Nat) : Int) := Z2r by_ 15 4 hb1 rfl (by decide)
 have hand2 : bits .and .u32 ((by_ : Int) / 16) 127 = ((by_ / 16 % 128 : Nat) : Int) := Z2r (by_ / 16) 127 7 (by omega) rfl (by decide)
 have hand3 : bits .and .u32 ((by_ : Int) / 2048) 3 = ((by_ / 2048 % 4 : Nat) : Int) := Z2r (by_ / 2048) 3 2 (by omega) rfl (by decide)
 have hand4 : bits .and .u32 ((by_ : Int) / 8192) 3 = ((by_ / 8192 % 4 : Nat) : Int) := Z2r (by_ / 8192) 3 2 (by omega) rfl (by decide)
 obtain ⟨q1, hq1⟩ : ∃ q, q = by_ % 16 := ⟨_, rfl⟩
 obtain ⟨q2, hq2⟩ : ∃ q, q = by_ / 16 % 128 := ⟨_, rfl⟩
 obtain ⟨q3, hq3⟩ : ∃ q, q = by_ / 2048 % 4 := ⟨_, rfl⟩
 obtain ⟨q4, hq4⟩ : ∃ q, q = by_ / 8192 % 4 := ⟨_, rfl⟩
 have HPK : Hid (Z3I (Z7e by_) = .agg #[.int .i64 (1 + (q1 : Int)), .int .i64 (20 + (q2 : Int)), .int .i64 (1 + (q3 : Int)), .int .i64 (1 + (q4 : Int))]) := by rw [hq1, hq2, hq3, hq4]; exact rfl
 rw [<- hq1] at hand1
 rw [<- hq2] at hand2
 rw [<- hq3] at hand3
 rw [<- hq4] at hand4
 have hqb : q1 < 16 /\ q2 < 128 /\ q3 < 4 /\ q4 < 4 := by omega
 obtain ⟨hqb1, hqb2, hqb3, hqb4⟩ := hqb
 rw [HPK.out]
 clear hnl hnp hls hlnl HPL hhp hpn hm24 m24 hq1 hq2 hq3 hq4
 go_enter Tryz.func10, Tryz.ntmps10
 go_wp2_with (at_make; refine wpList_make_own _ rfl _ _ 23 rfl (w.1.size + 2) 5 i0 (.int .u8 0) 1 Tryz.underlying23 HI.out.1 HI.out.2.1 HI.out.2.2.1 _ _ _ 3 rfl (by first | rfl | simp) rfl (by rw [HI.out.2.2.2]; omega) (by unfold maxLen; omega) (by simp) ?_; intro w1 hown hgrow)
 obtain ⟨w0, hw0⟩ : ∃ w0, w0 = (w.alloc (.cells #[.int .u8 0, .int .u8 0, .string ⟨#[]⟩, .slice none 0 0] 34)).alloc (.cells #[.int .i64 0, .int .i64 0, .int .i64 0, .int .i64 0] 37) := ⟨_, rfl⟩
 rw [<- hw0] at hgrow
 obtain ⟨k1, k2, k3, k4⟩ := Z8b hw0
 have hz1 := hgrow.size
 have hb2 : Below w.1.size w w1 := k4.grown hgrow (by omega) (fun r e => by cases e)
 have hm1 : w1.1[w.1.size]? = _ := (hgrow.block _ (by omega) (by simp)).trans k1
 have hm2 : w1.1[w.1.size + 1]? = _ := (hgrow.block _ (by omega) (by simp)).trans k2
 rw [k3] at hz1
 clear hgrow hw0 k1 k2 k3 k4
 go_loopw [16, 17] (fun v i wr => ∃ k : Nat, k <= 3 /\ k <= least.length /\ i = .int .i64 k /\ Below w.1.size w wr /\ w.1.size + 2 <= wr.1.size /\ wr.1[w.1.size]? = some (.cells #[.int .u8 0, .int .u8 0, .string ⟨#[]⟩, .slice none 0 0] 34 (0, 0)) /\
  wr.1[w.1.size + 1]? = some (.cells #[.int .i64 0, .int .i64 0, .int .i64 0, .int .i64 0] 37 (0, 0)) /\ wr.ownsRow (w.1.size + 2) 5 1 v k ((Z2h least k).map Zaf)) (fun _ i _ => 3 - (intOf i).toNat)
 case atStart => exact ⟨0, by omega, ZE _, rfl, hb2, hz1, hm1, hm2, by simpa [Z2h, Z6] using hown⟩
 case round =>
  clear hb2 hz1 hm1 hm2 hown
  obtain ⟨k, hk3, hkl, rfl, hB, hz, hM, hK, hO⟩ := hrel
  have HM := Z0 hM
  have HK := Z0 hK
  have HO := Z0 hO
  clear hM hK
  by_cases hlt : k < least.length
  ·by_cases h3 : k < 3
   ·obtain ⟨g, off, rfl, hg, hat⟩ := HCA.out (by omega)
    have e1 : wr.cell? ⟨g, off + k, none⟩ = some (.int .u8 (least[k].toNat : Int)) := (hB.cell (p := ⟨g, off + k, none⟩) hg).trans (hat k hlt)
    have hsu := Z9F hlt
    obtain ⟨c, hc⟩ : ∃ c, c = least[k] := ⟨_, rfl⟩
    rw [<- hc] at e1 hsu
    have hcb : c.toNat < 256 := c.toNat_lt
    have hmod : ((c.toNat : Int)).tmod 8 = ((c % 8).toNat : Int) := by rw [Int.tmod_eq_emod_of_nonneg (Int.natCast_nonneg _), UInt8.toNat_mod]; rfl
    have hmod2 : ((c.toNat : Int)) % 8 = ((c % 8).toNat : Int) := by rw [UInt8.toNat_mod]; rfl
    have hcb2 : (c % 8).toNat < 8 := by rw [UInt8.toNat_mod]; exact Nat.mod_lt _ (by decide)
    have HSU := Z0 hsu
    obtain ⟨d, hd⟩ : ∃ d, d = c % 8 := ⟨_, rfl⟩
    rw [<- hd] at hmod hmod2 hcb2 HSU
    clear hat hc hsu hd
    rcases Joins.ownsRow_forms hO with ⟨rfl, hpn⟩ | ⟨g2, cap2, rfl⟩
    ·have HPN := Z0 hpn
     clear hpn hO
     have HN1 := Z0 (Z0f wr [Zaf d] 5)
     go_wp2_with (at_builtin; refine wpList_append_lies _ rfl _ _ 23 rfl (w.1.size + 2) 5 i0 (.int .u8 0) 1 1 Tryz.underlying23 HI.out.1 HI.out.2.1 HI.out.2.2.1 HI.out.2.2.2 rfl (by decide) _ k _ rfl (HO.out.alloc _) ⟨wr.1.size, 0, none⟩ 1 1 [Zaf d] rfl rfl HN1.out (by simp [Zaf, Value.oneCell']) (by decide) (by unfold maxLen; omega) (by omega) (by simp; omega) _ rfl ?_; intro g9 cap9 w9 hown9 hgrow hat9 hlt9)
     go_roundw
     case rel =>
      have hbk : ∀ b, b < w.1.size + 2 -> w9.1[b]? = wr.1[b]? := fun b hb => (hgrow.block b (by rw [Z6]; omega) (fun e => by have := (HO.out.lt b e.symm).1; omega)).trans (ZB _ _ _ (by omega))
      refine ⟨k + 1, by omega, by omega, by go_num, (hB.alloc hB.size _).grown hgrow (by simp; omega) (fun r e => by have := (HO.out.lt r e).1; omega), ?_, (hbk _ (by omega)).trans HM.out, (hbk _ (by omega)).trans HK.out, ?_⟩
      ·have := hgrow.size
       rw [Z6] at this; omega
      ·rw [HSU.out, ZD]
       exact hown9
     case measure => simp [intOf]; omega
    ·clear hO
     have HN1 := Z0 (Z0f wr [Zaf d] 5)
     go_wp2_with (at_builtin; refine wpList_append_lies _ rfl _ _ 23 rfl (w.1.size + 2) 5 i0 (.int .u8 0) 1 1 Tryz.underlying23 HI.out.1 HI.out.2.1 HI.out.2.2.1 HI.out.2.2.2 rfl (by decide) _ k _ rfl (HO.out.alloc _) ⟨wr.1.size, 0, none⟩ 1 1 [Zaf d] rfl rfl HN1.out (by simp [Zaf, Value.oneCell']) (by decide) (by unfold maxLen; omega) (by omega) (by simp; omega) _ rfl ?_; intro g9 cap9 w9 hown9 hgrow hat9 hlt9)
     go_roundw
     case rel =>
      have hbk : ∀ b, b < w.1.size + 2 -> w9.1[b]? = wr.1[b]? := fun b hb => (hgrow.block b (by rw [Z6]; omega) (fun e => by have := (HO.out.lt b e.symm).1; omega)).trans (ZB _ _ _ (by omega))
      refine ⟨k + 1, by omega, by omega, by go_num, (hB.alloc hB.size _).grown hgrow (by simp; omega) (fun r e => by have := (HO.out.lt r e).1; omega), ?_, (hbk _ (by omega)).trans HM.out, (hbk _ (by omega)).trans HK.out, ?_⟩
      ·have := hgrow.size
       rw [Z6] at this; omega
      ·rw [HSU.out, ZD]
       exact hown9
     case measure => simp [intOf]; omega
   ·have hfin : Z2h least k = Z2h least 3 := by rw [show k = 3 by omega]
    rcases HFM.out with ⟨rfl, rfl, hl0⟩ | ⟨sb, so, sp, rfl, hcap⟩
    ·obtain rfl : l = [] := List.length_eq_zero_iff.1 hl0
     obtain rfl : mm = 0 := Nat.le_zero.1 HMM.out.2
     have hmm0 : min (0 : Int) (most : Int) = 0 := by omega
     have hmm1 : min (([] : List UInt16).length : Int) (most : Int) = 0 := hmm0
     clear hmm hl0
     exact absurd HX.out (by simp)
    ·have hmm2 : mm <= l.length := HMM.out.2
     have HMD := Z0 (Z8A HO.out hkl hfin hn0 hn1 (HRC.out.below2 hB) hcl HNL.out)
     have HML := Z0 (Z4v (cap := cs_) ((HRS.out.below hB).take HMM.out.2) HMM.out.1 hm HNP.out)
     rw [<- HLS.out] at HMD
     clear hfin hO
     go_upto_region 6 with fail
     go_cut [18, 19] from 41 to 52 (fun x p wx => Zdo w wr nl np ls (Z08 (l.take most)).ps x p wx)
     case first =>
      go_region_with (first
       | (go_at_call 25; refine (HMD.out _ (by first | exact (Z9 _ wr).drew | exact bL | exact (Z9 _ wr).drew.alloc (Z1 _) _ | exact ((Z9 _ wr).alloc (Z1 _) _).drew | exact bL.alloc bL.size _)).mono ?_; rintro e wM ⟨al, cl, rfl, hbM, bM, hoM⟩; (try (have zM : wM.1[wr.1.size]? = some (.cells #[.int .u8 0, .int .u8 0, .string ⟨#[]⟩, .slice none 0 0] 34 (0, 0)) := (hbM.block _ (by show wr.1.size < (wr.alloc _).1.size; rw [Z6]; omega)).trans (Z01 wr _)); (obtain ⟨zM0, zM1, zM2, zM3, yM0, yM1, yM2, yM3⟩ := Z0n zM); (have gz := Z1 wr.1.size)); (try (have zM : wM.1[wL.1.size]? = some (.cells #[.int .u8 0, .int .u8 0, .string ⟨#[]⟩, .slice none 0 0] 34 (0, 0)) := (hbM.block _ (by show wL.1.size < (wL.alloc _).1.size; rw [Z6]; omega)).trans (Z01 wL _)); (obtain ⟨zM0, zM1, zM2, zM3, yM0, yM1, yM2, yM3⟩ := Z0n zM); (have gz := bL.size)); (try (have zM := (hbM.block _ (Z5.1 zL).1).trans zL); (obtain ⟨zM0, zM1, zM2, zM3, yM0, yM1, yM2, yM3⟩ := Z0n zM)); (try (have hoL' : OwnsP wM wr.1.size (.slice ap np cp) (Z08 (l.take most)).ps := by first | exact Z09 hoL hbM | exact Z09 (Z09 hoL ((Z9 _ wL).alloc (Z1 _) _)) hbM)))
       | (go_at_call 26; refine (HML.out _ (by first | exact (Z9 _ wr).drew | exact bM | exact (Z9 _ wr).drew.alloc (Z1 _) _ | exact ((Z9 _ wr).alloc (Z1 _) _).drew | exact bM.alloc bM.size _)).mono ?_; rintro e wL ⟨ap, cp, rfl, hbL, bL, hoL⟩; (try (have zL : wL.1[wr.1.size]? = some (.cells #[.int .u8 0, .int .u8 0, .string ⟨#[]⟩, .slice none 0 0] 34 (0, 0)) := (hbL.block _ (by show wr.1.size < (wr.alloc _).1.size; rw [Z6]; omega)).trans (Z01 wr _)); (obtain ⟨zL0, zL1, zL2, zL3, yL0, yL1, yL2, yL3⟩ := Z0n zL); (have gz := Z1 wr.1.size)); (try (have zL : wL.1[wM.1.size]? = some (.cells #[.int .u8 0, .int .u8 0, .string ⟨#[]⟩, .slice none 0 0] 34 (0, 0)) := (hbL.block _ (by show wM.1.size < (wM.alloc _).1.size; rw [Z6]; omega)).trans (Z01 wM _)); (obtain ⟨zL0, zL1, zL2, zL3, yL0, yL1, yL2, yL3⟩ := Z0n zL); (have gz := bM.size)); (try (have zL := (hbL.block _ (Z5.1 zM).1).trans zM); (obtain ⟨zL0, zL1, zL2, zL3, yL0, yL1, yL2, yL3⟩ := Z0n zL)); (try (have hoM' : OwnsLv wL wr.1.size (.slice al nl cl) ls := by first | exact hoM.below hbL | exact (hoM.below ((Z9 _ wM).alloc (Z1 _) _)).below hbL))))
      all_goals
       go_wp2_with fail
       go_meet
       first
        | exact Z1t bL hoM' hoL
        | exact Z1t bM hoM hoL'
        | exact Z1O (x := #[]) bL gz zL hoM' hoL
        | exact Z1O (x := #[]) bM gz zM hoM hoL'
     case rest =>
      obtain ⟨wk, hwk⟩ : ∃ x, x = wc := ⟨_, rfl⟩
      subst hwk
      obtain ⟨al, cl, g, ap, cp, rfl, rfl, hg, hbk, hgk, hlk, hpk⟩ := hcut
      obtain ⟨m0, m1, m2, m3⟩ := Z0D hgk
      have hgl := (Z5.1 hgk).1
      have HGK := Z0 hgk
      have HLK := Z0 hlk
      have HPK := Z0 hpk
      clear HMD HML hgk hlk hpk
      go_upto_region 8 with (go_at_call 27; refine (HPL2.out _ al cl ap cp HLK.out.reads (RdPces.of_owns HPK.out)).mono ?_; rintro e w3 ⟨gz, rfl, hb3, hgz, hz3⟩)
      have h3g := (hb3.block _ hgl).trans HGK.out
      have h3m := (hb3.block _ (by have := hbk.size; omega)).trans ((hbk.block w.1.size (by omega)).trans HM.out)
      have h3k := (hb3.block _ (by have := hbk.size; omega)).trans ((hbk.block (w.1.size + 1) (by omega)).trans HK.out)
      clear m0 m1 m2 m3
      obtain ⟨m0, m1, m2, m3⟩ := Z0D h3g
      obtain ⟨x0, x1, x2, x3, f0, f1, f2, f3⟩ := Z0n h3m
      obtain ⟨r0, r1, r2, r3, d0, d1, d2, d3⟩ := Z0n h3k
      have H3M := Z0 h3m
      have H3K := Z0 h3k
      have HZ3 := Z0 hz3
      have HB3 := Z0 hb3
      have HGZ := Z0 hgz
      clear h3g h3m h3k hz3 hb3 hgz HPL2
      go_big_region
      go_wp2_with fail
      have hend := Z4w (Z5T (B := w.1.size + 2) (t1 := 34) (t2 := 37) (hB.trans ((hbk.trans (HB3.out.mono hbk.size)).mono hB.size)) ⟨Z1 _, by omega⟩ ⟨by omega, by omega⟩ (by omega) (by decide) (by decide) H3M.out H3K.out (OwnsLv.mono (HLK.out.below HB3.out) hz) (OwnsP.mono (Z09 HPK.out HB3.out) hz) HZ3.out (by have := HGZ.out; have := hbk.size; omega) (.int .u8 1) (.int .u8 1) (.string ⟨#[49, 48, 48, 50, 51]⟩) (.slice ap np cp) (.int .i64 (1 + (q1 : Int))) (.int .i64 (20 + (q2 : Int))) (.int .i64 (1 + (q3 : Int))) (.int .i64 (1 + (q4 : Int))))
      unfold Z1Z at hend
      obtain ⟨WF, hWF⟩ : ∃ WF, WF = ((((((((w3.setCell ⟨w.1.size, 0, none⟩ (.int .u8 1)).setCell ⟨w.1.size, 1, none⟩ (.int .u8 1)).setCell ⟨w.1.size, 2, none⟩ (.string ⟨#[49, 48, 48, 50, 51]⟩)).setCell ⟨w.1.size, 3, none⟩ (.slice ap np cp)).setCell ⟨w.1.size + 1, 0, none⟩ (.int .i64 (1 + (q1 : Int)))).setCell ⟨w.1.size + 1, 1, none⟩ (.int .i64 (20 + (q2 : Int)))).setCell ⟨w.1.size + 1, 2, none⟩ (.int .i64 (1 + (q3 : Int)))).setCell ⟨w.1.size + 1, 3, none⟩ (.int .i64 (1 + (q4 : Int)))).drew := ⟨_, rfl⟩
      rw [<- hWF] at hend ⊢
      obtain ⟨e1, e2, e3, e4, e5, e6⟩ := hend
      clear hWF
      refine bodyPost_ret (Z2m rfl _ _ w.1.size (w.1.size + 1) _ _ rfl rfl (run_loadVar_row _ _ _ _ _ _ _ e1 Tryz.underlying34 rfl (by kernel_rfl)) (run_loadVar_row _ _ _ _ _ _ _ e2 Tryz.underlying37 rfl (by kernel_rfl))) rfl ?_
      exact ⟨al, cl, ap, cp, gz, rfl, e3, e4, e5, e6, by have := HGZ.out; have := hbk.size; omega⟩
  ·have hfin : Z2h least k = Z2h least 3 := by
    unfold Z2h
    rw [List.take_of_length_le (by omega), List.take_of_length_le (by omega)]
   rcases HFM.out with ⟨rfl, rfl, hl0⟩ | ⟨sb, so, sp, rfl, hcap⟩
   ·obtain rfl : l = [] := List.length_eq_zero_iff.1 hl0
    obtain rfl : mm = 0 := Nat.le_zero.1 HMM.out.2
    have hmm0 : min (0 : Int) (most : Int) = 0 := by omega
    have hmm1 : min (([] : List UInt16).length : Int) (most : Int) = 0 := hmm0
    clear hmm hl0
    exact absurd HX.out (by simp)
   ·have hmm2 : mm <= l.length := HMM.out.2
    have HMD := Z0 (Z8A HO.out hkl hfin hn0 hn1 (HRC.out.below2 hB) hcl HNL.out)
    have HML := Z0 (Z4v (cap := cs_) ((HRS.out.below hB).take HMM.out.2) HMM.out.1 hm HNP.out)
    rw [<- HLS.out] at HMD
    clear hfin hO
    go_upto_region 6 with fail
    go_cut [18, 19] from 41 to 52 (fun x p wx => Zdo w wr nl np ls (Z08 (l.take most)).ps x p wx)
    case first =>
     go_region_with (first
      | (go_at_call 25; refine (HMD.out _ (by first | exact (Z9 _ wr).drew | exact bL | exact (Z9 _ wr).drew.alloc (Z1 _) _ | exact ((Z9 _ wr).alloc (Z1 _) _).drew | exact bL.alloc bL.size _)).mono ?_; rintro e wM ⟨al, cl, rfl, hbM, bM, hoM⟩; (try (have zM : wM.1[wr.1.size]? = some (.cells #[.int .u8 0, .int .u8 0, .string ⟨#[]⟩, .slice none 0 0] 34 (0, 0)) := (hbM.block _ (by show wr.1.size < (wr.alloc _).1.size; rw [Z6]; omega)).trans (Z01 wr _)); (obtain ⟨zM0, zM1, zM2, zM3, yM0, yM1, yM2, yM3⟩ := Z0n zM); (have gz := Z1 wr.1.size)); (try (have zM : wM.1[wL.1.size]? = some (.cells #[.int .u8 0, .int .u8 0, .string ⟨#[]⟩, .slice none 0 0] 34 (0, 0)) := (hbM.block _ (by show wL.1.size < (wL.alloc _).1.size; rw [Z6]; omega)).trans (Z01 wL _)); (obtain ⟨zM0, zM1, zM2, zM3, yM0, yM1, yM2, yM3⟩ := Z0n zM); (have gz := bL.size)); (try (have zM := (hbM.block _ (Z5.1 zL).1).trans zL); (obtain ⟨zM0, zM1, zM2, zM3, yM0, yM1, yM2, yM3⟩ := Z0n zM)); (try (have hoL' : OwnsP wM wr.1.size (.slice ap np cp) (Z08 (l.take most)).ps := by first | exact Z09 hoL hbM | exact Z09 (Z09 hoL ((Z9 _ wL).alloc (Z1 _) _)) hbM)))
      | (go_at_call 26; refine (HML.out _ (by first | exact (Z9 _ wr).drew | exact bM | exact (Z9 _ wr).drew.alloc (Z1 _) _ | exact ((Z9 _ wr).alloc (Z1 _) _).drew | exact bM.alloc bM.size _)).mono ?_; rintro e wL ⟨ap, cp, rfl, hbL, bL, hoL⟩; (try (have zL : wL.1[wr.1.size]? = some (.cells #[.int .u8 0, .int .u8 0, .string ⟨#[]⟩, .slice none 0 0] 34 (0, 0)) := (hbL.block _ (by show wr.1.size < (wr.alloc _).1.size; rw [Z6]; omega)).trans (Z01 wr _)); (obtain ⟨zL0, zL1, zL2, zL3, yL0, yL1, yL2, yL3⟩ := Z0n zL); (have gz := Z1 wr.1.size)); (try (have zL : wL.1[wM.1.size]? = some (.cells #[.int .u8 0, .int .u8 0, .string ⟨#[]⟩, .slice none 0 0] 34 (0, 0)) := (hbL.block _ (by show wM.1.size < (wM.alloc _).1.size; rw [Z6]; omega)).trans (Z01 wM _)); (obtain ⟨zL0, zL1, zL2, zL3, yL0, yL1, yL2, yL3⟩ := Z0n zL); (have gz := bM.size)); (try (have zL := (hbL.block _ (Z5.1 zM).1).trans zM); (obtain ⟨zL0, zL1, zL2, zL3, yL0, yL1, yL2, yL3⟩ := Z0n zL)); (try (have hoM' : OwnsLv wL wr.1.size (.slice al nl cl) ls := by first | exact hoM.below hbL | exact (hoM.below ((Z9 _ wM).alloc (Z1 _) _)).below hbL))))
     all_goals
      go_wp2_with fail
      go_meet
      first
       | exact Z1t bL hoM' hoL
       | exact Z1t bM hoM hoL'
       | exact Z1O (x := #[]) bL gz zL hoM' hoL
       | exact Z1O (x := #[]) bM gz zM hoM hoL'
    case rest =>
     obtain ⟨wk, hwk⟩ : ∃ x, x = wc := ⟨_, rfl⟩
     subst hwk
     obtain ⟨al, cl, g, ap, cp, rfl, rfl, hg, hbk, hgk, hlk, hpk⟩ := hcut
     obtain ⟨m0, m1, m2, m3⟩ := Z0D hgk
     have hgl := (Z5.1 hgk).1
     have HGK := Z0 hgk
     have HLK := Z0 hlk
     have HPK := Z0 hpk
     clear HMD HML hgk hlk hpk
     go_upto_region 8 with (go_at_call 27; refine (HPL2.out _ al cl ap cp HLK.out.reads (RdPces.of_owns HPK.out)).mono ?_; rintro e w3 ⟨gz, rfl, hb3, hgz, hz3⟩)
     have h3g := (hb3.block _ hgl).trans HGK.out
     have h3m := (hb3.block _ (by have := hbk.size; omega)).trans ((hbk.block w.1.size (by omega)).trans HM.out)
     have h3k := (hb3.block _ (by have := hbk.size; omega)).trans ((hbk.block (w.1.size + 1) (by omega)).trans HK.out)
     clear m0 m1 m2 m3
     obtain ⟨m0, m1, m2, m3⟩ := Z0D h3g
     obtain ⟨x0, x1, x2, x3, f0, f1, f2, f3⟩ := Z0n h3m
     obtain ⟨r0, r1, r2, r3, d0, d1, d2, d3⟩ := Z0n h3k
     have H3M := Z0 h3m
     have H3K := Z0 h3k
     have HZ3 := Z0 hz3
     have HB3 := Z0 hb3
     have HGZ := Z0 hgz
     clear h3g h3m h3k hz3 hb3 hgz HPL2
     go_big_region
     go_wp2_with fail
     have hend := Z4w (Z5T (B := w.1.size + 2) (t1 := 34) (t2 := 37) (hB.trans ((hbk.trans (HB3.out.mono hbk.size)).mono hB.size)) ⟨Z1 _, by omega⟩ ⟨by omega, by omega⟩ (by omega) (by decide) (by decide) H3M.out H3K.out (OwnsLv.mono (HLK.out.below HB3.out) hz) (OwnsP.mono (Z09 HPK.out HB3.out) hz) HZ3.out (by have := HGZ.out; have := hbk.size; omega) (.int .u8 1) (.int .u8 1) (.string ⟨#[49, 48, 48, 50, 51]⟩) (.slice ap np cp) (.int .i64 (1 + (q1 : Int))) (.int .i64 (20 + (q2 : Int))) (.int .i64 (1 + (q3 : Int))) (.int .i64 (1 + (q4 : Int))))
     unfold Z1Z at hend
     obtain ⟨WF, hWF⟩ : ∃ WF, WF = ((((((((w3.setCell ⟨w.1.size, 0, none⟩ (.int .u8 1)).setCell ⟨w.1.size, 1, none⟩ (.int .u8 1)).setCell ⟨w.1.size, 2, none⟩ (.string ⟨#[49, 48, 48, 50, 51]⟩)).setCell ⟨w.1.size, 3, none⟩ (.slice ap np cp)).setCell ⟨w.1.size + 1, 0, none⟩ (.int .i64 (1 + (q1 : Int)))).setCell ⟨w.1.size + 1, 1, none⟩ (.int .i64 (20 + (q2 : Int)))).setCell ⟨w.1.size + 1, 2, none⟩ (.int .i64 (1 + (q3 : Int)))).setCell ⟨w.1.size + 1, 3, none⟩ (.int .i64 (1 + (q4 : Int)))).drew := ⟨_, rfl⟩
     rw [<- hWF] at hend ⊢
     obtain ⟨e1, e2, e3, e4, e5, e6⟩ := hend
     clear hWF
     refine bodyPost_ret (Z2m rfl _ _ w.1.size (w.1.size + 1) _ _ rfl rfl (run_loadVar_row _ _ _ _ _ _ _ e1 Tryz.underlying34 rfl (by kernel_rfl)) (run_loadVar_row _ _ _ _ _ _ _ e2 Tryz.underlying37 rfl (by kernel_rfl))) rfl ?_
     exact ⟨al, cl, ap, cp, gz, rfl, e3, e4, e5, e6, by have := HGZ.out; have := hbk.size; omega⟩
end Go.Proofs.YtlgajongmkhcnaaGreatDoor
