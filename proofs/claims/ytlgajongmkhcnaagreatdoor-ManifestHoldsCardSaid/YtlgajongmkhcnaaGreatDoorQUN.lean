import Derived.Test.YtlgajongmkhcnaaGreatDoorQUH
import Derived.Test.YtlgajongmkhcnaaGreatDoorQUd
import Derived.Test.YtlgajongmkhcnaaGreatDoorQUF
import Derived.Test.YtlgajongmkhcnaaGreatDoorQUb
import Derived.Test.YtlgajongmkhcnaaGreatDoorQUK
set_option maxRecDepth 100000
set_option linter.unusedVariables false
set_option linter.unusedSimpArgs false
set_option maxHeartbeats 32000000
namespace Go.Proofs.YtlgajongmkhcnaaGreatDoor
open Go.RowKit Go.Sort
theorem Ziw {W : World} {B : Nat} {vb vt vc : Value} {l : Lod} (h1 : OwnsX 67 4 Z0T (fun b => b.ids) W B vb l.buns) (h2 : OwnsX 112 3 Z34 (fun t => t.bs) W B vt l.tras) (h3 : OwnsX 114 2 Z3h (fun c => c.ts) W B vc l.cons) :
 RdLod W vb vt vc l := ⟨h1.rd (fun _ => rfl), h2.rd (fun _ => rfl), h3.rd (fun _ => rfl)⟩
theorem Zbq {ls : List Lev} {m : Mai} (h : HasPlan ls m) {v vp vz : Value} {zs : List Int} {k : Pck} {w : World} (hr : RdLevs w v ls) (pA : RdPces w vp m.ps) (hz : RdInts w vz zs) (pF : zs.length = m.ps.length) (hn : Z1j ls.length zs = true) (hA : Zb3 ls m zs k = 0)
 (hk : Z7K k = true) (qQ : ∀ p ∈ m.ps, p.grams <= k.grams) {Gs : List Grp} (hG : Z16 ls (Z07 m.ps) ls.length = Gs) :
 Calls Tryz.prog 12 #[v, Z2r m vp, vz, Z4J k] w fun e w' => ∃ ab cb at' ct ac cc, e = .returned (.tuple #[Zeh (.slice ab (ZfL k m.ps zs Gs).buns.length cb) (.slice at' (ZfL k m.ps zs Gs).tras.length ct) (.slice ac (ZfL k m.ps zs Gs).cons.length cc), .int .i64 0]) /\ Below w.1.size w w' /\
  RdLod w' (.slice ab (ZfL k m.ps zs Gs).buns.length cb) (.slice at' (ZfL k m.ps zs Gs).tras.length ct) (.slice ac (ZfL k m.ps zs Gs).cons.length cc) (ZfL k m.ps zs Gs) := by
 refine (Zfm h v vp vz zs k w hr pA hz pF hn hA hk qQ).mono ?_
 rintro e w' ⟨vb, vt, vc, rfl, hb, h1, h2, h3⟩
 rw [hG] at h1 h2 h3
 obtain ⟨ab, cb, rfl⟩ := h1.form
 obtain ⟨at', ct, rfl⟩ := h2.form
 obtain ⟨ac, cc, rfl⟩ := h3.form
 exact ⟨ab, cb, at', ct, ac, cc, rfl, hb, Ziw h1 h2 h3⟩
theorem Zea {ls : List Lev} {m : Mai} (h : HasPlan ls m) {v vp vz vb vt vc : Value} {zs : List Int} {k : Pck} {l : Lod} {w : World} (hr : RdLevs w v ls) (pA : RdPces w vp m.ps) (hz : RdInts w vz zs) (pF : zs.length = m.ps.length) (hn : Z1j ls.length zs = true) (hA : Zb3 ls m zs k = 0)
 (qR : RdLod w vb vt vc l) (pG : Pkd k m.ps zs (Z6n zs (Z16 ls (Z07 m.ps) ls.length) m.ps.length (Z16 ls (Z07 m.ps) ls.length).length) l) :
 Calls Tryz.prog 37 #[v, Z2r m vp, vz, Z4J k, Zeh vb vt vc] w fun e w' => e = .returned (.tuple #[.bool true, .int .i64 0]) /\ Below w.1.size w w' := by
 have qW := h.few
 refine Calls.mono (Zi8 h v vp vz vb vt vc zs k l w hr pA hz pF hn hA qR (pG.smallL (by omega)) (fun b hb i hi => by have := (pG.own b hb).2.2 i hi; omega)) ?_
 rintro e w' ⟨u, rfl, hb, hu⟩
 rw [hu.true pG.ok]
 exact ⟨rfl, hb⟩
def ZjV (args : Array Value) (ls : List Lev) (l : List UInt16) (zs : List Int) (k : Pck) (w : World) : Prop :=
 ∀ W, Below w.1.size w W -> Calls Tryz.prog 10 args W fun e w' => ∃ al cl ap cp gz, e = .returned (.tuple #[.slice al ls.length cl, .agg #[.int .u8 1, .int .u8 1, .string ⟨#[49, 48, 48, 50, 51]⟩, .slice ap l.length cp], .slice (some ⟨gz, 0, none⟩) l.length l.length, .agg #[.int .i64 k.pieces, .int .i64 k.grams, .int .i64 k.bundles, .int .i64 k.trays]]) /\ Below W.1.size W w' /\
  OwnsLv w' W.1.size (.slice al ls.length cl) ls /\ OwnsP w' W.1.size (.slice ap l.length cp) (Z04 l).ps /\ IntsAt w' gz zs /\ W.1.size <= gz
theorem Za5 {ls : List Lev} {m : Mai} (h : HasPlan ls m) {k : Pck} (hk : Z7K k = true) : Zb3 ls m (Z3W ls m) k = 0 := by
 unfold Zb3
 rw [h.valid, if_pos rfl, if_pos ⟨rfl, hk⟩]
theorem ZkS : Z7K exK = true := by kernel_rfl
theorem Z9r : ∀ p ∈ exMl.ps, p.grams <= exK.grams := by
 intro p hp
 have h : p = exMl.ps[0] \/ p = exMl.ps[1] \/ p = exMl.ps[2] := by simpa [exMl] using hp
 rcases h with rfl | rfl | rfl <;> decide
theorem Zkp : Pkd exK exMl.ps Z4m (Z6n Z4m (Z16 exS (Z07 exMl.ps) exS.length) exMl.ps.length (Z16 exS (Z07 exMl.ps) exS.length).length) exLod := by
 have := Zcu ex_has (zs := Z4m) rfl Z7w ZkS Z9r
 rw [ZaF, Zg2] at this
 rw [ZaF]
 exact this
abbrev exB (i : Nat) : Int := (Z0B exT exRt exMl i).1
theorem ZkR : ∀ i, i < exMl.ps.length -> LnIn 1000000 (Z3p exMl 10 exB (Z5o exT exRt exS exMl Z4m) exS Z4m i) := by
 intro i hi
 have h3 : i < 3 := hi
 match i, h3 with
 | 0, _ =>
  have e : Z3p exMl 10 exB (Z5o exT exRt exS exMl Z4m) exS Z4m 0 = ⟨0, 1, 1, 10, 100, 10, 5, 85⟩ := by kernel_rfl
  rw [e]; exact ⟨by decide, by decide, by decide, by decide, by decide, by decide, by decide⟩
 | 1, _ =>
  have e : Z3p exMl 10 exB (Z5o exT exRt exS exMl Z4m) exS Z4m 1 = ⟨0, 1, 0, 10, 100, 0, 5, 95⟩ := by kernel_rfl
  rw [e]; exact ⟨by decide, by decide, by decide, by decide, by decide, by decide, by decide⟩
 | 2, _ =>
  have e : Z3p exMl 10 exB (Z5o exT exRt exS exMl Z4m) exS Z4m 2 = ⟨0, 1, 0, 10, 150, 0, 0, 150⟩ := by kernel_rfl
  rw [e]; exact ⟨by decide, by decide, by decide, by decide, by decide, by decide, by decide⟩
theorem ZiG : ∀ i, i < exMl.ps.length -> (Z0B exT exRt exMl i).2 = 0 := fun i hi => by rw [Zjt i hi]
theorem Zkr : ∀ p ∈ exMl.ps, p.code.size <= maxLen := fun p hp => by have := Z0w ((Z1Q Z6t).2 p hp); unfold maxLen; omega
theorem Zko : ∀ x ∈ Z4m, 0 <= x /\ x < (exS.length : Int) := by decide
theorem Zd0 {vr vz vl vp vn vb vt vc : Value} (W : World) (h : RdTar W vr vz exT) (hr : RdLevs W vl exS) (pA : RdPces W vp exMl.ps) (hn : RdInts W vn Z4m) (hb : ∃ a c, vb = .slice a 2 c) (ht : ∃ a c, vt = .slice a 2 c) (hc : ∃ a c, vc = .slice a 2 c) :
 Calls Tryz.prog 28 #[.agg #[vr, vz], vl, Z2r exMl vp, vn, .agg #[vb, vt, vc]] W fun e w' => ∃ v, e = .returned (.tuple #[Z6p exMan v, .int .i64 0]) /\ Below W.1.size W w' /\ OwnsLn w' W.1.size v exMan.lines := by
 obtain ⟨ar, cr, rfl, _⟩ := id h.r
 obtain ⟨az, cz, rfl, _⟩ := id h.z
 have hq : 0 < exT.rates.length := by decide
 have := Zcg (m := exMl) (ls := exS) (zs := Z4m) (bar := 10) (B := exB) (R := Z5o exT exRt exS exMl Z4m) (vb := vb) (vt := vt) (vc := vc) (nb := 2) (nt := 2) (nc := 2) W pA hr hn ⟨_, _, _, rfl⟩ ⟨_, _, _, rfl⟩ hb ht hc (by decide) (by decide) rfl Zko (by decide) ZkR
  (fun W' hW => Z8e ZiH Zju W' (h.below hW) (hr.below hW) (Z1A Z54) Z54 (pA.below hW) Z6t (by decide) Zkr (hn.below hW) rfl Zko hq rfl ZiG)
  (fun W' hW => Z9y ZiH W' (h.below hW) (pA.below hW) Z6t (by decide) Zkr hq rfl ZiG)
  (fun W' hW => ZaV 1 W' (h.below hW) (by decide) hq rfl (fun i hi qS => absurd qS (Ka2 _)))
 have e : Z5x Z4m (Z3p exMl 10 exB (Z5o exT exRt exS exMl Z4m) exS Z4m) exMl.ps.length exS.length 2 2 2 = exMan := Zkq
 rw [e] at this
 exact this
theorem Zdg {W : World} {g : Nat} (h : W.1[g]? = some (.cells #[.int .i64 0, .int .i64 2, .int .i64 1, .int .i64 20, .int .i64 200, .int .i64 10, .int .i64 10, .int .i64 180, .int .i64 1, .int .i64 1, .int .i64 0, .int .i64 10, .int .i64 150, .int .i64 0, .int .i64 0, .int .i64 150] 42)) : RdLns W (.slice (some ⟨g, 0, none⟩) 2 2) exMan.lines :=
 ⟨_, _, rfl, fun _ => ⟨g, 0, rfl, (Z5.1 h).1, fun i hi j u hj => by
  rw [Kaa _ _ _ _ _ _ h]
  have qT : i < 2 := hi
  have pP : j < 8 := (Kam.1 hj).1
  rw [<- hj]
  match i, qT with
  | 0, _ =>
   match j, pP with
   | 0, _ => rfl
   | 1, _ => rfl
   | 2, _ => rfl
   | 3, _ => rfl
   | 4, _ => rfl
   | 5, _ => rfl
   | 6, _ => rfl
   | 7, _ => rfl
  | 1, _ =>
   match j, pP with
   | 0, _ => rfl
   | 1, _ => rfl
   | 2, _ => rfl
   | 3, _ => rfl
   | 4, _ => rfl
   | 5, _ => rfl
   | 6, _ => rfl
   | 7, _ => rfl⟩⟩
theorem Z1w {W : World} {g : Nat} {a0 a1 a2 a3 a4 a5 a6 a7 a8 a9 a10 a11 : Value} {t : TypeId} {fr : Nat × Nat} (h : W.1[g]? = some (.cells #[a0, a1, a2, a3, a4, a5, a6, a7, a8, a9, a10, a11] t fr)) :
 W.cell? ⟨g, 0, none⟩ = some a0 /\ W.cell? ⟨g, 1, none⟩ = some a1 /\ W.cell? ⟨g, 2, none⟩ = some a2 /\ W.cell? ⟨g, 3, none⟩ = some a3 /\ W.cell? ⟨g, 4, none⟩ = some a4 /\ W.cell? ⟨g, 5, none⟩ = some a5 /\ W.cell? ⟨g, 6, none⟩ = some a6 /\ W.cell? ⟨g, 7, none⟩ = some a7 /\ W.cell? ⟨g, 8, none⟩ = some a8 /\ W.cell? ⟨g, 9, none⟩ = some a9 /\ W.cell? ⟨g, 10, none⟩ = some a10 /\ W.cell? ⟨g, 11, none⟩ = some a11 :=
 ⟨Kaa _ _ 0 _ _ _ h, Kaa _ _ 1 _ _ _ h, Kaa _ _ 2 _ _ _ h, Kaa _ _ 3 _ _ _ h, Kaa _ _ 4 _ _ _ h, Kaa _ _ 5 _ _ _ h, Kaa _ _ 6 _ _ _ h, Kaa _ _ 7 _ _ _ h, Kaa _ _ 8 _ _ _ h, Kaa _ _ 9 _ _ _ h, Kaa _ _ 10 _ _ _ h, Kaa _ _ 11 _ _ _ h⟩
theorem Z7C (w : World) (ht : TabW w) : Calls Tryz.prog 8 #[] w fun e w' => e = .returned (.bool true) /\ Below w.1.size w w' := by
 have pQ : Hid (∀ W, Calls Tryz.prog 21 #[] W fun e w' => ∃ al cl ap cp, e = .returned (.tuple #[.slice al 2 cl, .agg #[.int .u8 1, .int .u8 1, .string ⟨#[49, 48, 48, 50, 51]⟩, .slice ap 3 cp], .agg #[.int .i64 10, .int .i64 1000, .int .i64 10, .int .i64 10]]) /\ Below W.1.size W w' /\ RdLevs w' (.slice al 2 cl) exS /\ RdPces w' (.slice ap 3 cp) exMl.ps) := by
  intro W
  refine (Z9p W).mono ?_
  rintro e w' ⟨vl, vp, rfl, hb, hl, hp⟩
  obtain ⟨al, cl, rfl, _⟩ := id hl
  obtain ⟨ap, cp, rfl, _⟩ := id hp
  exact ⟨al, cl, ap, cp, rfl, hb, hl, hp⟩
 have pR : Hid (∀ W, Calls Tryz.prog 22 #[] W fun e w' => ∃ ar cr az cz, e = .returned (.agg #[.slice ar 1 cr, .slice az 2 cz]) /\ Below W.1.size W w' /\ RdTar w' (.slice ar 1 cr) (.slice az 2 cz) exT) := by
  intro W
  refine (Z9q W).mono ?_
  rintro e w' ⟨vr, vz, rfl, hb, hT⟩
  obtain ⟨ar, cr, rfl, _⟩ := id hT.r
  obtain ⟨az, cz, rfl, _⟩ := id hT.z
  exact ⟨ar, cr, az, cz, rfl, hb, hT⟩
 have pS : Hid (∀ W ar cr az cz al cl ap cp vn, RdTar W (.slice ar 1 cr) (.slice az 2 cz) exT -> RdLevs W (.slice al 2 cl) exS -> RdPces W (.slice ap 3 cp) exMl.ps -> RdInts W vn Z4m -> Calls Tryz.prog 11 #[.agg #[.slice ar 1 cr, .slice az 2 cz], .slice al 2 cl, .agg #[.int .u8 1, .int .u8 1, .string ⟨#[49, 48, 48, 50, 51]⟩, .slice ap 3 cp], vn, .agg #[.int .i64 10, .int .i64 1000, .int .i64 10, .int .i64 10]] W fun e w' => ∃ ax cx, e = .returned (.tuple #[.agg #[.slice ax 2 cx, .int .i64 2, .int .i64 3, .int .i64 1, .int .i64 30, .int .i64 350, .int .i64 10, .int .i64 10, .int .i64 330, .int .i64 2, .int .i64 2, .int .i64 2], .int .i64 0]) /\ Below W.1.size W w' /\ RdLns w' (.slice ax 2 cx) exMan.lines) := by
  intro W ar cr az cz al cl ap cp vn h1 h2 h3 h4
  obtain ⟨an, cn, rfl, _⟩ := id h4
  refine Calls.mono (ZfF (M := exMan) (m := exMl) (k := exK) (nb := 2) (nt := 2) (nc := 2) W ⟨_, _, _, rfl⟩ ⟨_, _, _, rfl⟩ ⟨_, _, _, rfl⟩ ⟨_, _, _, rfl⟩ ⟨_, _, _, rfl⟩ (fun W' hW => ?_) (fun W' ab cb at' ct ac cc hW => Zd0 W' (h1.below hW) (h2.below hW) (h3.below hW) (h4.below hW) ⟨_, _, rfl⟩ ⟨_, _, rfl⟩ ⟨_, _, rfl⟩)) ?_
  ·have := Zbq ex_has (h2.below hW) (h3.below hW) (h4.below hW) rfl Z7w Zg3 ZkS Z9r ZaF
   rw [Zg2] at this
   refine this.mono ?_
   rintro e w' ⟨ab, cb, at', ct, ac, cc, rfl, hb, _⟩
   exact ⟨ab, cb, at', ct, ac, cc, rfl, hb⟩
  ·rintro e w' ⟨v, rfl, hb, ho⟩
   have hr := OwnsLn.rd ho
   obtain ⟨ax, cx, rfl, _⟩ := id hr
   exact ⟨ax, cx, rfl, hb, hr⟩
 have pT : Hid (∀ W al cl ap cp vn, RdLevs W (.slice al 2 cl) exS -> RdPces W (.slice ap 3 cp) exMl.ps -> RdInts W vn Z4m -> Calls Tryz.prog 12 #[.slice al 2 cl, .agg #[.int .u8 1, .int .u8 1, .string ⟨#[49, 48, 48, 50, 51]⟩, .slice ap 3 cp], vn, .agg #[.int .i64 10, .int .i64 1000, .int .i64 10, .int .i64 10]] W fun e w' => ∃ ab cb at' ct ac cc, e = .returned (.tuple #[.agg #[.slice ab 2 cb, .slice at' 2 ct, .slice ac 2 cc], .int .i64 0]) /\ Below W.1.size W w' /\ RdLod w' (.slice ab 2 cb) (.slice at' 2 ct) (.slice ac 2 cc) exLod) := by
  intro W al cl ap cp vn h2 h3 h4
  have := Zbq ex_has h2 h3 h4 rfl Z7w Zg3 ZkS Z9r ZaF
  rw [Zg2] at this
  exact this
 have pU : Hid (∀ W ar cr az cz al cl ap cp an cn ab cb at' ct ac cc ax cx, RdTar W (.slice ar 1 cr) (.slice az 2 cz) exT -> RdLevs W (.slice al 2 cl) exS -> RdPces W (.slice ap 3 cp) exMl.ps -> RdInts W (.slice an 3 cn) Z4m -> RdLod W (.slice ab 2 cb) (.slice at' 2 ct) (.slice ac 2 cc) exLod -> RdLns W (.slice ax 2 cx) exMan.lines ->
  Calls Tryz.prog 14 #[.agg #[.slice ar 1 cr, .slice az 2 cz], .slice al 2 cl, .agg #[.int .u8 1, .int .u8 1, .string ⟨#[49, 48, 48, 50, 51]⟩, .slice ap 3 cp], .slice an 3 cn, .agg #[.int .i64 10, .int .i64 1000, .int .i64 10, .int .i64 10], .agg #[.slice ab 2 cb, .slice at' 2 ct, .slice ac 2 cc], .agg #[.slice ax 2 cx, .int .i64 2, .int .i64 3, .int .i64 1, .int .i64 30, .int .i64 350, .int .i64 10, .int .i64 10, .int .i64 330, .int .i64 2, .int .i64 2, .int .i64 2]] W fun e w' => e = .returned (.tuple #[.bool true, .int .i64 0]) /\ Below W.1.size W w') := by
  intro W ar cr az cz al cl ap cp an cn ab cb at' ct ac cc ax cx h1 h2 h3 h4 h5 h6
  have := Za1 (X := exMan) (M := exMan) (m := exMl) (k := exK) (b := true) (nb := 2) (nt := 2) (nc := 2) W ⟨_, _, _, rfl⟩ ⟨_, _, _, rfl⟩ ⟨_, _, _, rfl⟩ ⟨_, _, _, rfl⟩ ⟨_, _, _, rfl⟩ ⟨ab, cb, rfl⟩ ⟨at', ct, rfl⟩ ⟨ac, cc, rfl⟩ h6 (by decide) (by decide)
   (fun W' hW => Zea ex_has (h2.below hW) (h3.below hW) (h4.below hW) rfl Z7w Zg3 (h5.below hW) Zkp)
   (fun W' hW => Zd0 W' (h1.below hW) (h2.below hW) (h3.below hW) (h4.below hW) ⟨_, _, rfl⟩ ⟨_, _, rfl⟩ ⟨_, _, rfl⟩)
  refine Calls.mono this ?_
  rintro e w' ⟨rfl, hb⟩
  exact ⟨by simp, hb⟩
 have pV : Hid (∀ W al cl ax cx, TabW W -> RdLevs W (.slice al 2 cl) exS -> RdLns W (.slice ax 2 cx) exMan.lines -> Calls Tryz.prog 17 #[.slice al 2 cl, .agg #[.slice ax 2 cx, .int .i64 2, .int .i64 3, .int .i64 1, .int .i64 30, .int .i64 350, .int .i64 10, .int .i64 10, .int .i64 330, .int .i64 2, .int .i64 2, .int .i64 2]] W fun e w' => e = .returned (.tuple #[.string ⟨([51, 32, 50, 32, 49, 32, 50, 48, 32, 50, 46, 48, 48, 32, 48, 46, 49, 48, 32, 48, 46, 49, 48, 32, 49, 46, 56, 48, 10, 97, 108, 108, 32, 49, 32, 48, 32, 49, 48, 32, 49, 46, 53, 48, 32, 48, 46, 48, 48, 32, 48, 46, 48, 48, 32, 49, 46, 53, 48, 10, 116, 111, 116, 97, 108, 32, 51, 32, 49, 32, 51, 48, 32, 51, 46, 53, 48, 32, 48, 46, 49, 48, 32, 48, 46, 49, 48, 32, 51, 46, 51, 48, 10, 112, 97, 99, 107, 101, 100, 32, 50, 32, 50, 32, 50, 10] : List UInt8).toArray⟩, .int .i64 0]) /\ Below W.1.size W w') := by
  intro W al cl ax cx h1 h2 h3
  have := Zcb (ls := exS) (X := exMan) W h2 Z54 h3 rfl ⟨by decide, ⟨by decide, by decide⟩, ⟨by decide, by decide⟩, ⟨by decide, by decide⟩⟩ (fun l hl => by
   have h : l = exMan.lines[0] \/ l = exMan.lines[1] := by simpa [exMan] using hl
   rcases h with rfl | rfl <;> exact ⟨by decide, ⟨by decide, by decide⟩, ⟨by decide, by decide⟩, ⟨by decide, by decide⟩⟩) ⟨by decide, by decide⟩ ⟨by decide, by decide⟩ ⟨by decide, by decide⟩ h1
  rw [Zjs] at this
  exact this
 have pW : Hid (∀ W ax cx ay cy, RdLns W (.slice ax 2 cx) exMan.lines -> RdLns W (.slice ay 2 cy) exMan.lines -> Calls Tryz.prog 23 #[.agg #[.slice ax 2 cx, .int .i64 2, .int .i64 3, .int .i64 1, .int .i64 30, .int .i64 350, .int .i64 10, .int .i64 10, .int .i64 330, .int .i64 2, .int .i64 2, .int .i64 2], .agg #[.slice ay 2 cy, .int .i64 2, .int .i64 3, .int .i64 1, .int .i64 30, .int .i64 350, .int .i64 10, .int .i64 10, .int .i64 330, .int .i64 2, .int .i64 2, .int .i64 2]] W fun e w' => e = .returned (.bool true) /\ Below W.1.size W w') := by
  intro W ax cx ay cy h1 h2
  exact Z9U exMan (.slice ax 2 cx) (.slice ay 2 cy) W h1 h2 (by decide)
 have pX := Z0 ht
 clear ht
 go_enter Tryz.func8, Tryz.ntmps8
 go_wp2_with fail
 refine (pQ.out _).mono ?_
 rintro e w1 ⟨al, cl, ap, cp, rfl, pY, pZ, qA⟩
 go_wp2_with fail
 obtain ⟨W2, pH⟩ : ∃ W2, W2 = (w1.alloc (.cells #[.int .u8 1, .int .u8 1, .string ⟨#[49, 48, 48, 50, 51]⟩, .slice ap 3 cp] 34)).alloc (.cells #[.int .i64 10, .int .i64 1000, .int .i64 10, .int .i64 10] 37) := ⟨_, rfl⟩
 obtain ⟨t1, t2, t3, t4⟩ := Z25 pH
 rw [<- pH]
 clear pH
 refine (pR.out _).mono ?_
 rintro e w3 ⟨ar, cr, az, cz, rfl, pB, qB⟩
 have b3 := Z01 t4 t4.size pB
 have s3 := pB.size
 have q1 := (pB.block _ (by omega)).trans t1
 have q2 := (pB.block _ (by omega)).trans t2
 obtain ⟨m0, m1, m2, m3⟩ := Z0H q1
 obtain ⟨k0, k1, k2, k3⟩ := Z0H q2
 have l1 : w1.1.size < w3.1.size := by omega
 have l2 : w1.1.size + 1 < w3.1.size := by omega
 have pI := Z0 pY
 have qC := Z0 pZ
 have qD := Z0 qA
 have qE := Z0 q1
 have qF := Z0 q2
 have pJ := Z0 b3
 have qG := Z0 qB
 clear pY pZ qA q1 q2 b3 qB pB t1 t2 t4
 go_wp2_with fail
 obtain ⟨W4, pK⟩ : ∃ W4, W4 = (w3.alloc (.cells #[.slice ar 1 cr, .slice az 2 cz] 29)).alloc (.cells #[.int .i64 0, .int .i64 0, .int .i64 1] 3) := ⟨_, rfl⟩
 obtain ⟨t1, t2, t5, t4⟩ := Z25 pK
 rw [<- pK]
 have b14 := Z01 pJ.out pJ.out.size t4
 have HK : Hid (∀ W, Below W4.1.size W4 W -> ((W.cell? ⟨w1.1.size, 0, none⟩ = some (.int .u8 1) /\ W.cell? ⟨w1.1.size, 1, none⟩ = some (.int .u8 1) /\ W.cell? ⟨w1.1.size, 2, none⟩ = some (.string ⟨#[49, 48, 48, 50, 51]⟩) /\ W.cell? ⟨w1.1.size, 3, none⟩ = some (.slice ap 3 cp)) /\
  (W.cell? ⟨w1.1.size + 1, 0, none⟩ = some (.int .i64 10) /\ W.cell? ⟨w1.1.size + 1, 1, none⟩ = some (.int .i64 1000) /\ W.cell? ⟨w1.1.size + 1, 2, none⟩ = some (.int .i64 10) /\ W.cell? ⟨w1.1.size + 1, 3, none⟩ = some (.int .i64 10)) /\
  (W.cell? ⟨w3.1.size, 0, none⟩ = some (.slice ar 1 cr) /\ W.cell? ⟨w3.1.size, 1, none⟩ = some (.slice az 2 cz)) /\ w1.1.size < W.1.size /\ w1.1.size + 1 < W.1.size /\ w3.1.size < W.1.size) /\
  (RdTar W (.slice ar 1 cr) (.slice az 2 cz) exT /\ RdLevs W (.slice al 2 cl) exS /\ RdPces W (.slice ap 3 cp) exMl.ps /\ RdInts W (.slice (some ⟨w3.1.size + 1, 0, none⟩) 3 3) Z4m /\ TabW W /\ Below w.1.size w W)) := by
  intro W hW
  have hz := hW.size
  have c1 := (hW.block _ (by omega)).trans ((t4.block _ (by omega)).trans qE.out)
  have c2 := (hW.block _ (by omega)).trans ((t4.block _ (by omega)).trans qF.out)
  have c3 := (hW.block _ (by omega)).trans t1
  have c4 := (hW.block _ (by omega)).trans t2
  have bW : Below w1.1.size w1 W := Z01 b14 b14.size hW
  have b3W : Below w3.1.size w3 W := Z01 t4 t4.size hW
  have bw : Below w.1.size w W := Z01 pI.out pI.out.size bW
  exact ⟨⟨Z0H c1, Z0H c2, ⟨Kaa _ _ 0 _ _ _ c3, Kaa _ _ 1 _ _ _ c3⟩, by omega, by omega, by omega⟩, qG.out.below b3W, qC.out.below bW, qD.out.below bW, Z38 (zs := [0, 0, 1]) c4, pX.out.below bw, bw⟩
 clear pK t1 t2 t4 t5 b14 m0 m1 m2 m3 k0 k1 k2 k3 pQ pR
 obtain ⟨_, r1, r2, r3, r4, _, _⟩ := HK.out W4 (Z9 _ _)
 refine (pS.out W4 _ _ _ _ _ _ _ _ _ r1 r2 r3 r4).mono ?_
 clear r1 r2 r3 r4 pS l1 l2
 rintro e w5 ⟨ax, cx, rfl, pE, qH⟩
 obtain ⟨⟨⟨m0, m1, m2, m3⟩, ⟨k0, k1, k2, k3⟩, ⟨y0, y1⟩, l1, l2, l3⟩, _⟩ := HK.out w5 pE
 go_wp2_with fail
 obtain ⟨W6, pC⟩ : ∃ W6, W6 = w5.alloc (.cells #[.slice ax 2 cx, .int .i64 2, .int .i64 3, .int .i64 1, .int .i64 30, .int .i64 350, .int .i64 10, .int .i64 10, .int .i64 330, .int .i64 2, .int .i64 2, .int .i64 2] 44) := ⟨_, rfl⟩
 have h6 : W6.1[w5.1.size]? = some (.cells #[.slice ax 2 cx, .int .i64 2, .int .i64 3, .int .i64 1, .int .i64 30, .int .i64 350, .int .i64 10, .int .i64 10, .int .i64 330, .int .i64 2, .int .i64 2, .int .i64 2] 44 (0, 0)) := by rw [pC]; exact Z02 w5 _
 have b56 : Below w5.1.size w5 W6 := by rw [pC]; exact (Z9 _ w5).alloc (Z1 _) _
 have s6 : W6.1.size = w5.1.size + 1 := by rw [pC]; simp
 rw [<- pC]
 have b46 := Z01 pE pE.size b56
 have qI := qH.below b56
 obtain ⟨G, hG⟩ : ∃ G, G = w5.1.size := ⟨_, rfl⟩
 rw [<- hG] at h6 s6 ⊢
 clear pC hG m0 m1 m2 m3 k0 k1 k2 k3 y0 y1 l1 l2 l3 pE qH b56
 have HM : Hid (∀ W, Below W6.1.size W6 W -> W.1[G]? = some (.cells #[.slice ax 2 cx, .int .i64 2, .int .i64 3, .int .i64 1, .int .i64 30, .int .i64 350, .int .i64 10, .int .i64 10, .int .i64 330, .int .i64 2, .int .i64 2, .int .i64 2] 44 (0, 0)) /\ G < W.1.size /\ RdLns W (.slice ax 2 cx) exMan.lines) := fun W hW => ⟨(hW.block _ (by omega)).trans h6, by have := hW.size; omega, qI.below hW⟩
 clear h6 qI s6
 obtain ⟨_, r1, r2, r3, r4, _, _⟩ := HK.out W6 b46
 refine (pT.out W6 _ _ _ _ _ r2 r3 r4).mono ?_
 clear r1 r2 r3 r4 pT
 rintro e w7 ⟨ab, cb, at', ct, ac, cc, rfl, pD, qJ⟩
 have b47 := Z01 b46 b46.size pD
 obtain ⟨⟨⟨m0, m1, m2, m3⟩, ⟨k0, k1, k2, k3⟩, ⟨y0, y1⟩, l1, l2, l3⟩, _⟩ := HK.out w7 b47
 obtain ⟨h7, l4, _⟩ := HM.out w7 pD
 obtain ⟨n0, n1, n2, n3, n4, n5, n6, n7, n8, n9, n10, n11⟩ := Z1w h7
 clear h7
 go_wp2_with fail
 obtain ⟨W8, pL⟩ : ∃ W8, W8 = w7.alloc (.cells #[.slice ab 2 cb, .slice at' 2 ct, .slice ac 2 cc] 52) := ⟨_, rfl⟩
 have b78 : Below w7.1.size w7 W8 := by rw [pL]; exact (Z9 _ w7).alloc (Z1 _) _
 rw [<- pL]
 have b48 := Z01 b47 b47.size b78
 have b68 := Z01 pD pD.size b78
 have qK := qJ.below b78
 clear pL b78 qJ b47 pD m0 m1 m2 m3 k0 k1 k2 k3 y0 y1 l1 l2 l3 l4 n0 n1 n2 n3 n4 n5 n6 n7 n8 n9 n10 n11
 obtain ⟨_, r1, r2, r3, r4, _, _⟩ := HK.out W8 b48
 obtain ⟨_, _, r5⟩ := HM.out W8 b68
 refine (pU.out W8 _ _ _ _ _ _ _ _ _ _ _ _ _ _ _ _ _ _ r1 r2 r3 r4 qK r5).mono ?_
 clear r1 r2 r3 r4 r5 pU qK
 rintro e w9 ⟨rfl, pM⟩
 have b49 := Z01 b48 b48.size pM
 have b69 := Z01 b68 b68.size pM
 obtain ⟨h9, l4, _⟩ := HM.out w9 b69
 obtain ⟨n0, n1, n2, n3, n4, n5, n6, n7, n8, n9, n10, n11⟩ := Z1w h9
 clear h9 b48 b68 pM
 go_wp2_with fail
 obtain ⟨_, r1, r2, r3, r4, r6, _⟩ := HK.out w9 b49
 obtain ⟨_, _, r5⟩ := HM.out w9 b69
 refine (pV.out w9 _ _ _ _ r6 r2 r5).mono ?_
 clear r1 r2 r3 r4 r5 r6 pV n0 n1 n2 n3 n4 n5 n6 n7 n8 n9 n10 n11
 rintro e w10 ⟨rfl, pN⟩
 have b410 := Z01 b49 b49.size pN
 have b610 := Z01 b69 b69.size pN
 have qX := b46.size
 obtain ⟨qL, l4, _⟩ := HM.out w10 b610
 obtain ⟨n0, n1, n2, n3, n4, n5, n6, n7, n8, n9, n10, n11⟩ := Z1w qL
 clear qL b49 b69 pN b46
 go_upto_region 9 with fail
 obtain ⟨W11, pO⟩ : ∃ W, W = (w10.alloc (.cells #[.int .i64 0, .int .i64 2, .int .i64 1, .int .i64 20, .int .i64 200, .int .i64 10, .int .i64 10, .int .i64 180, .int .i64 1, .int .i64 1, .int .i64 0, .int .i64 10, .int .i64 150, .int .i64 0, .int .i64 0, .int .i64 150] 42)).alloc (.cells #[.slice (some ⟨w10.1.size, 0, none⟩) 2 2, .int .i64 2, .int .i64 3, .int .i64 1, .int .i64 30, .int .i64 350, .int .i64 10, .int .i64 10, .int .i64 330, .int .i64 2, .int .i64 2, .int .i64 2] 44) := ⟨_, rfl⟩
 rw [<- pO]
 obtain ⟨t1, t2, t3, t4⟩ := Z25 pO
 obtain ⟨_, _, r5⟩ := HM.out W11 (Z01 b610 b610.size t4)
 have r6 := Zdg t1
 have qM := (HM.out W11 (Z01 b610 b610.size t4)).1
 obtain ⟨v0, v1, v2, v3, v4, v5, v6, v7, v8, v9, v10, v11⟩ := Z1w t2
 obtain ⟨x0, x1, x2, x3, x4, x5, x6, x7, x8, x9, x10, x11⟩ := Z1w qM
 have qU := Z0 (pW.out W11 _ _ _ _ r5 r6)
 obtain ⟨_, _, _, _, _, _, qN⟩ := HK.out W11 (Z01 b410 b410.size t4)
 have qO := Z0 qN
 have qY := Z0 t4
 clear pO t1 t2 t3 t4 r5 r6 qM qN n0 n1 n2 n3 n4 n5 n6 n7 n8 n9 n10 n11 l4 b410 b610 HK HM pW pX pI qC qD qE qF pJ qG s3
 go_wp2_with (go_at_call 23; refine qU.out.mono ?_; rintro e w12 ⟨rfl, qP⟩; have qV := Z0 qP; clear qP)
 go_ret
 exact ⟨rfl, Z01 qO.out qO.out.size qV.out⟩
end Go.Proofs.YtlgajongmkhcnaaGreatDoor
