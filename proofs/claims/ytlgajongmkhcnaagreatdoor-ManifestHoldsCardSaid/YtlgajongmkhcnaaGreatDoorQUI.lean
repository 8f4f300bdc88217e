import Derived.Test.YtlgajongmkhcnaaGreatDoorQUF
import Derived.Test.YtlgajongmkhcnaaGreatDoorQUH
import Derived.Test.YtlgajongmkhcnaaGreatDoorQUd
import Derived.BigRegion
import Derived.Deep.RegionWith
import Derived.Deep.DeepCutAuto
set_option maxRecDepth 100000
set_option linter.unusedVariables false
set_option linter.unusedSimpArgs false
set_option maxHeartbeats 32000000
namespace Go.Proofs.YtlgajongmkhcnaaGreatDoor
open Go.RowKit Go.Sort
theorem Tryz.infoU8 : (Tryz.prog.info? 5).map (fun i => (i.zero, i.size, i.bytes)) = some (some (.int .u8 0), 1, 1) := by kernel_rfl
def Z2s (least : List UInt8) (k : Nat) : List UInt8 := (least.take k).map (· % 8)
theorem Zan {least : List UInt8} {k : Nat} (h : k < least.length) : Z2s least (k + 1) = Z2s least k ++ [least[k] % 8] := by
 unfold Z2s; rw [Z8 h, ZD]; rfl
def Zb1 (c : UInt8) : Value := .int .u8 (c.toNat : Int)
theorem ZhN (least : List UInt8) (k : Nat) : (Z2s least k).length <= k := by unfold Z2s; rw [Z7, Kax]; omega
theorem RdBytes.of_row {w : World} {base : Nat} {v : Value} {bs : List UInt8} (h : w.ownsRow base 5 1 v bs.length (bs.map Zb1)) : RdBytes w v bs := by
 rcases Joins.ownsRow_forms h with ⟨rfl, hp⟩ | ⟨g, cap, rfl⟩
 ·obtain rfl : bs = [] := Kag.1 hp
  exact ⟨none, 0, rfl, fun h => absurd h (by simp)⟩
 ·exact ⟨_, cap, rfl, fun _ => ⟨g, 0, rfl, (h.lt g rfl).2, fun i hi => by rw [Ka0, h.cellAt i (by omega), Kal, Z3 hi]; rfl⟩⟩
theorem RdBytes.below2 {w w' : World} {v : Value} {zs : List UInt8} (h : RdBytes w v zs) (hb : Below w.1.size w w') : RdBytes w' v zs := h.below hb
theorem Zcl {w : World} {base base' : Nat} {e : TypeId} {size : Nat} {v : Value} {n : Nat} {xs : List Value} (h : w.ownsRow base e size v n xs) (hb : base' <= base) : w.ownsRow base' e size v n xs := by
 obtain ⟨h1, h2 | ⟨g, cap, cur, hv, h3, h4⟩⟩ := h
 ·exact ⟨h1, .inl h2⟩
 ·exact ⟨h1, .inr ⟨g, cap, cur, hv, Kaw hb h3, h4⟩⟩
theorem OwnsLv.mono {w : World} {base base' : Nat} {v : Value} {ls : List Lev} (h : OwnsLv w base v ls) (hb : base' <= base) : OwnsLv w base' v ls := by
 obtain ⟨L, hL, hLr, hLo⟩ := h
 exact ⟨L, hL, fun p hp => Zcl (hLr p hp) hb, Zcl hLo hb⟩
theorem Z9c {n : Int} {v vc : Value} {least cents : List UInt8} {wr : World} {k base : Nat} (ho : wr.ownsRow base 5 1 v k ((Z2s least k).map Zb1)) (hk : k <= least.length) (pK : Z2s least k = Z2s least 3) (qI : 0 <= n) (qJ : n < 4294967296) (qK : RdBytes wr vc cents) (qL : cents.length <= maxLen)
 {nl : Nat} (pS : nl = (Z1O (bitsOf n) (Z2s least 3) cents).length) : ∀ W, Below wr.1.size wr W -> Calls Tryz.prog 25 #[.int .u32 n, v, vc] W fun e w' => ∃ al cl, e = .returned (.slice al nl cl) /\ Below W.1.size W w' /\ Below wr.1.size wr w' /\ OwnsLv w' wr.1.size (.slice al nl cl) (Z1O (bitsOf n) (Z2s least 3) cents) := fun W hW => by
 have pL : (Z2s least k).length = k := by unfold Z2s; rw [Z7, Kax]; omega
 have sA : RdBytes wr v (Z2s least 3) := by
  rw [<- pK]
  refine RdBytes.of_row (base := base) ?_
  rw [pL]
  exact ho
 refine (ZhM n v vc (Z2s least 3) cents W qI qJ (sA.below hW) (qK.below hW) (by have := ZhN least 3; unfold maxLen; omega) qL).mono ?_
 rintro e w' ⟨v', rfl, hb, ho⟩
 obtain ⟨al, cl, rfl⟩ := ho.form
 rw [pS]
 exact ⟨al, cl, rfl, hb, hW.trans (hb.mono hW.size), ho.mono hW.size⟩
theorem Z4V {a : Option Addr} {mm cap most : Nat} {l : List UInt16} {wr : World} (h : RdU16 wr (.slice a mm cap) (l.take mm)) (he : l.take mm = l.take most) (hm : most <= 2000) {np : Nat} (pT : np = (l.take most).length) :
 ∀ W, Below wr.1.size wr W -> Calls Tryz.prog 26 #[.int .u8 0, .slice a mm cap] W fun e w' => ∃ ap cp, e = .returned (.agg #[.int .u8 1, .int .u8 1, .string ⟨#[49, 48, 48, 50, 51]⟩, .slice ap np cp]) /\ Below W.1.size W w' /\ Below wr.1.size wr w' /\ OwnsP w' wr.1.size (.slice ap np cp) (Z04 (l.take most)).ps := fun W hW => by
 rw [he] at h
 refine (ZdP (l.take most) _ W (h.below hW) (by rw [Kax]; omega)).mono ?_
 rintro e w' ⟨ap, cp, rfl, hb, ho⟩
 rw [<- pT] at ho ⊢
 exact ⟨ap, cp, rfl, hb, hW.trans (hb.mono hW.size), OwnsP.mono ho hW.size⟩
theorem Z2G (a m j : Nat) (ha : a < 4294967296) (hm : m = 2 ^ j - 1) (hj : j <= 32) : bits .and .u32 (a : Int) (m : Int) = ((a % 2 ^ j : Nat) : Int) := by
 have qP : m < 4294967296 := by
  have : 2 ^ j <= 2 ^ 32 := Nat.pow_le_pow_right (by decide) hj
  have h0 : 0 < 2 ^ j := Nat.pow_pos (by decide)
  omega
 have h1 : (BitVec.ofInt 32 (a : Int)).toNat = a := by
  rw [BitVec.ofInt_natCast, BitVec.toNat_ofNat]; exact Kcv (by omega)
 have h2 : (BitVec.ofInt 32 (m : Int)).toNat = m := by
  rw [BitVec.ofInt_natCast, BitVec.toNat_ofNat]; exact Kcv (by omega)
 have hw : ∀ n : Int, IntKind.u32.wrap n = n % 4294967296 := fun n => by simp [IntKind.wrap, IntKind.bits, IntKind.signed]
 show IntKind.u32.wrap ((BitVec.ofInt 32 (a : Int) &&& BitVec.ofInt 32 (m : Int)).toNat : Int) = _
 rw [BitVec.toNat_and, h1, h2, hw, hm, Nat.and_two_pow_sub_one_eq_mod]
 have : a % 2 ^ j <= a := Nat.mod_le _ _
 omega
def Z6X (b : Nat) : Pck := ⟨1 + ((b % 16 : Nat) : Int), 20 + ((b / 16 % 128 : Nat) : Int), 1 + ((b / 2048 % 4 : Nat) : Int), 1 + ((b / 8192 % 4 : Nat) : Int)⟩
theorem Zcx (b : Nat) : Z7K (Z6X b) = true := by
 unfold Z7K Z6X
 rw [ZF, Kab, Kab]
 dsimp only
 omega
theorem Z6W (b : Nat) (l : List UInt16) : ∀ p ∈ (Z04 l).ps, p.grams <= (Z6X b).grams := by
 intro p hp
 unfold Z04 Zbi at hp
 obtain ⟨i, _, rfl⟩ := Kae.1 hp
 unfold p24 Z6X
 dsimp only
 omega
theorem Z2x {P : Program} {fn : Func} {u p v q : Tmp} {t1 t2 : TypeId} (h : fn.results = #[.tmp u, .cell p t1, .tmp v, .cell q t2]) (tmps : Array Value) (w : World) (g1 g2 : Nat) (x y : Value)
 (hp : tmps.getD p undef = .pointer (some ⟨g1, 0, none⟩)) (hq : tmps.getD q undef = .pointer (some ⟨g2, 0, none⟩)) (hL : (loadVar t1 ⟨g1, 0, none⟩).run P w = .ok x w) (sB : (loadVar t2 ⟨g2, 0, none⟩).run P w = .ok y w) :
 (results fn tmps).run P w = .ok (.tuple #[tmps.getD u undef, x, tmps.getD v undef, y]) w := by
 have hp' : tmps[p]?.getD undef = .pointer (some ⟨g1, 0, none⟩) := by simpa using hp
 have hq' : tmps[q]?.getD undef = .pointer (some ⟨g2, 0, none⟩) := by simpa using hq
 simp [results, h, hp', hq', asAddr, hL, sB, Result.andThen]
abbrev Z2a (w : World) (g : Nat) (a b c d : Value) : World := (((w.setCell ⟨g, 0, none⟩ a).setCell ⟨g, 1, none⟩ b).setCell ⟨g, 2, none⟩ c).setCell ⟨g, 3, none⟩ d
theorem Z35 (w : World) (g : Nat) (a b c d : Value) : w.grownBy (Z2a w g a b c d) (some g) :=
 ⟨rfl, rfl, rfl, by simp [World.setCell], fun k hk qM => by
  have hk' : k ≠ g := fun e => qM (by rw [e])
  have hs : ∀ (W : World) (p : Addr) (u : Value), p.block = g -> (W.setCell p u).1[k]? = W.1[k]? := fun W p u hp => ZA _ _ _ _ (fun e => hk' (by rw [e, hp]))
  show ((((w.setCell ⟨g, 0, none⟩ a).setCell ⟨g, 1, none⟩ b).setCell ⟨g, 2, none⟩ c).setCell ⟨g, 3, none⟩ d).1[k]? = _
  rw [hs _ _ _ rfl, hs _ _ _ rfl, hs _ _ _ rfl, hs _ _ _ rfl]⟩
theorem Z46 {B : Nat} {w0 w : World} (h : Below B w0 w) {g : Nat} (hg : B <= g) (a b c d : Value) : Below B w0 (Z2a w g a b c d) :=
 (((h.setCell (p := ⟨g, 0, none⟩) hg _).setCell (p := ⟨g, 1, none⟩) hg _).setCell (p := ⟨g, 2, none⟩) hg _).setCell (p := ⟨g, 3, none⟩) hg _
theorem Zkh {w : World} {B g gz : Nat} {v1 v2 : Value} {ls : List Lev} {ps : List Pce} {zs : List Int} (hg : g < B) (hl : OwnsLv w B v1 ls) (hp : OwnsP w B v2 ps) (hz : IntsAt w gz zs) (pF : B <= gz) {x : Array Value} {t : TypeId} (h0 : w.1[g]? = some (.cells x t (0, 0)))
 (ht : t ≠ 150 /\ t ≠ 63) (a b c d : Value) : OwnsLv (Z2a w g a b c d) B v1 ls /\ OwnsP (Z2a w g a b c d) B v2 ps /\ IntsAt (Z2a w g a b c d) gz zs := by
 have pU := Z35 w g a b c d
 have hn : ∀ T : TypeId, t ≠ T -> ∀ q, some g = some q -> ∀ cur fr, w.1[q]? ≠ some (.cells cur T fr) := fun T hT q e cur fr e2 => by
  injection e with e
  rw [<- e, h0] at e2
  injection e2 with e2
  injection e2 with e3 e4 e5
  exact hT e4
 refine ⟨hl.grown pU (hn _ ht.1) (hn _ ht.2), Z3O hp hg _ _ _ _, ?_⟩
 refine (pU.block gz (Z5.1 hz).1 (fun e => ?_)).trans hz
 injection e with e
 omega
def Zee (w wr : World) (nl np : Nat) (ls : List Lev) (ps : List Pce) (x p : Value) (wx : World) : Prop :=
 ∃ al cl g ap cp, x = .slice al nl cl /\ p = .pointer (some ⟨g, 0, none⟩) /\ wr.1.size <= g /\ Below wr.1.size wr wx /\ wx.1[g]? = some (.cells #[.int .u8 1, .int .u8 1, .string ⟨#[49, 48, 48, 50, 51]⟩, .slice ap np cp] 34 (0, 0)) /\ OwnsLv wx wr.1.size (.slice al nl cl) ls /\ OwnsP wx wr.1.size (.slice ap np cp) ps
theorem Z1E {w wr wX : World} {nl np : Nat} {ls : List Lev} {ps : List Pce} {al ap : Option Addr} {cl cp : Nat} (hX : Below wr.1.size wr wX) (hl : OwnsLv wX wr.1.size (.slice al nl cl) ls) (hp : OwnsP wX wr.1.size (.slice ap np cp) ps) :
 Zee w wr nl np ls ps (.slice al nl cl) (.pointer (some ⟨wX.1.size, 0, none⟩)) (wX.alloc (.cells #[.int .u8 1, .int .u8 1, .string ⟨#[49, 48, 48, 50, 51]⟩, .slice ap np cp] 34)) := by
 have hb : Below wX.1.size wX (wX.alloc (.cells #[.int .u8 1, .int .u8 1, .string ⟨#[49, 48, 48, 50, 51]⟩, .slice ap np cp] 34)) := (Z9 _ _).alloc (Z1 _) _
 exact ⟨al, cl, _, ap, cp, rfl, rfl, hX.size, hX.trans (hb.mono hX.size), Z02 wX _, hl.below hb, Z09 hp hb⟩
theorem Z1Z {w wr wX : World} {nl np : Nat} {ls : List Lev} {ps : List Pce} {al ap : Option Addr} {cl cp g : Nat} {x : Array Value} (hX : Below wr.1.size wr wX) (hg : wr.1.size <= g) (h0 : wX.1[g]? = some (.cells #[.int .u8 0, .int .u8 0, .string ⟨#[]⟩, .slice none 0 0] 34 (0, 0))) (hl : OwnsLv wX wr.1.size (.slice al nl cl) ls) (hp : OwnsP wX wr.1.size (.slice ap np cp) ps) :
 Zee w wr nl np ls ps (.slice al nl cl) (.pointer (some ⟨g, 0, none⟩)) ((((wX.setCell ⟨g, 0, none⟩ (.int .u8 1)).setCell ⟨g, 1, none⟩ (.int .u8 1)).setCell ⟨g, 2, none⟩ (.string ⟨#[49, 48, 48, 50, 51]⟩)).setCell ⟨g, 3, none⟩ (.slice ap np cp)) := by
 have pU := Z35 wX g (.int .u8 1) (.int .u8 1) (.string ⟨#[49, 48, 48, 50, 51]⟩) (.slice ap np cp)
 have hn : ∀ T : TypeId, 34 ≠ T -> ∀ q, some g = some q -> ∀ cur fr, wX.1[q]? ≠ some (.cells cur T fr) := fun T hT q e cur fr e2 => by
  injection e with e
  rw [<- e, h0] at e2
  injection e2 with e2
  injection e2 with e3 e4 e5
  exact hT e4
 exact ⟨al, cl, g, ap, cp, rfl, rfl, hg, Z46 hX hg _ _ _ _, Ziu h0, hl.grown pU (hn _ (by decide)) (hn _ (by decide)), Z0A hp pU (hn _ (by decide))⟩
theorem Z6q {w w3 : World} {B g1 g2 gz : Nat} {v1 v2 : Value} {ls : List Lev} {ps : List Pce} {zs : List Int} (hb : Below w.1.size w w3) (h1 : w.1.size <= g1 /\ g1 < B) (h2 : w.1.size <= g2 /\ g2 < B) (qM : g1 ≠ g2) {x0 x1 x2 x3 y0 y1 y2 y3 : Value} {t1 t2 : TypeId}
 (sC : t1 ≠ 150 /\ t1 ≠ 63) (sD : t2 ≠ 150 /\ t2 ≠ 63) (hx : w3.1[g1]? = some (.cells #[x0, x1, x2, x3] t1 (0, 0))) (hy : w3.1[g2]? = some (.cells #[y0, y1, y2, y3] t2 (0, 0)))
 (hl : OwnsLv w3 B v1 ls) (hp : OwnsP w3 B v2 ps) (hz : IntsAt w3 gz zs) (pF : B <= gz) (a b c d a' b' c' d' : Value) :
 (Z2a (Z2a w3 g1 a b c d) g2 a' b' c' d').1[g1]? = some (.cells #[a, b, c, d] t1 (0, 0)) /\ (Z2a (Z2a w3 g1 a b c d) g2 a' b' c' d').1[g2]? = some (.cells #[a', b', c', d'] t2 (0, 0)) /\ Below w.1.size w (Z2a (Z2a w3 g1 a b c d) g2 a' b' c' d') /\
 OwnsLv (Z2a (Z2a w3 g1 a b c d) g2 a' b' c' d') w.1.size v1 ls /\ OwnsP (Z2a (Z2a w3 g1 a b c d) g2 a' b' c' d') w.1.size v2 ps /\ IntsAt (Z2a (Z2a w3 g1 a b c d) g2 a' b' c' d') gz zs := by
 obtain ⟨w4, sE⟩ : ∃ w4, w4 = Z2a w3 g1 a b c d := ⟨_, rfl⟩
 obtain ⟨l4, p4, z4⟩ := Zkh h1.2 hl hp hz pF hx sC a b c d
 have x4 : (Z2a w3 g1 a b c d).1[g1]? = some (.cells #[a, b, c, d] t1 (0, 0)) := Ziu hx
 have sF := Z35 w3 g1 a b c d
 have b4 := Z46 hb h1.1 a b c d
 have y4 : (Z2a w3 g1 a b c d).1[g2]? = _ := (sF.block g2 (Z5.1 hy).1 (fun e => qM (Kav e).symm)).trans hy
 rw [<- sE] at l4 p4 z4 x4 b4 y4 ⊢
 obtain ⟨l5, p5, z5⟩ := Zkh h2.2 l4 p4 z4 pF y4 sD a' b' c' d'
 have sG := Z35 w4 g2 a' b' c' d'
 exact ⟨(sG.block g1 (Z5.1 x4).1 (fun e => qM (Kav e))).trans x4, Ziu y4, Z46 b4 h2.1 _ _ _ _, l5.mono (by omega), OwnsP.mono p5 (by omega), z5⟩
theorem Z4X {w W : World} {g1 g2 gz : Nat} {v1 v2 : Value} {ls : List Lev} {ps : List Pce} {zs : List Int} {c1 c2 : Array Value} {t1 t2 : TypeId} (h : W.1[g1]? = some (.cells c1 t1 (0, 0)) /\ W.1[g2]? = some (.cells c2 t2 (0, 0)) /\ Below w.1.size w W /\ OwnsLv W w.1.size v1 ls /\ OwnsP W w.1.size v2 ps /\ IntsAt W gz zs) :
 W.drew.1[g1]? = some (.cells c1 t1 (0, 0)) /\ W.drew.1[g2]? = some (.cells c2 t2 (0, 0)) /\ Below w.1.size w W.drew /\ OwnsLv W.drew w.1.size v1 ls /\ OwnsP W.drew w.1.size v2 ps /\ IntsAt W.drew gz zs := by
 obtain ⟨e1, e2, e3, e4, e5, e6⟩ := h
 exact ⟨e1, e2, e3.drew, e4.below (Z9 _ W).drew, Z09 e5 (Z9 _ W).drew, e6⟩
theorem ZdS (n : Int) (by_ : Nat) (vl vc vs : Value) (least cents : List UInt8) (l : List UInt16) (most : Nat) (w : World) (qI : 0 <= n) (qJ : n < 4294967296) (sH : by_ < 4294967296) (sI : RdBytes w vl least) (qK : RdBytes w vc cents) (pV : Z7H w vs l)
 (tA : least.length <= maxLen) (qL : cents.length <= maxLen) (tB : l.length <= maxLen) (hm : most <= 2000) (hx : vs = .slice none 0 0) :
 Calls Tryz.prog 10 #[.int .u32 n, vl, vc, vs, .int .i64 most, .int .u32 by_] w fun e w' => ∃ al cl ap cp gz, e = .returned (.tuple #[.slice al (Z1O (bitsOf n) (Z2s least 3) cents).length cl, .agg #[.int .u8 1, .int .u8 1, .string ⟨#[49, 48, 48, 50, 51]⟩, .slice ap (l.take most).length cp], .slice (some ⟨gz, 0, none⟩) (l.take most).length (l.take most).length, Z4J (Z6X by_)]) /\ Below w.1.size w w' /\
  OwnsLv w' w.1.size (.slice al (Z1O (bitsOf n) (Z2s least 3) cents).length cl) (Z1O (bitsOf n) (Z2s least 3) cents) /\ OwnsP w' w.1.size (.slice ap (l.take most).length cp) (Z04 (l.take most)).ps /\ IntsAt w' gz (Z3W (Z1O (bitsOf n) (Z2s least 3) cents) (Z04 (l.take most))) /\ w.1.size <= gz := by
 obtain ⟨a, ca, rfl, rH⟩ := sI
 obtain ⟨pV, rI⟩ := pV
 have sJ := pV
 obtain ⟨as_, cs_, rfl, sK⟩ := sJ
 have rJ := Z0 pV
 have rK : (as_ = none /\ cs_ = 0 /\ l.length = 0) \/ (∃ sb so sp, as_ = some ⟨sb, so, sp⟩ /\ l.length <= cs_) := by
  rcases rI with h | ⟨b, off, spot, cap, h, hc⟩
  ·injection h with h1 h2 h3
   exact .inl ⟨h1, h3, h2⟩
  ·injection h with h1 h2 h3
   exact .inr ⟨b, off, spot, h1, by omega⟩
 have rL := Z0 rK
 have HX : Hid (as_ = none) := by injection hx
 clear hx
 obtain ⟨mm, rM⟩ : ∃ mm : Nat, min (l.length : Int) (most : Int) = (mm : Int) := ⟨min l.length most, by omega⟩
 have pJ : Hid (l.take mm = l.take most /\ mm <= l.length) := by
  refine ⟨?_, by omega⟩
  by_cases h : l.length <= most
  ·rw [Kas (by omega), Kas h]
  ·rw [show mm = most by omega]
 have rN := Z0 qK
 have sL := Z0 rH
 obtain ⟨i0, hi⟩ := info_parts Tryz.infoU8
 have HI := Z0 hi
 clear hi rH sK qK pV rI rK
 have rO : HasPlan (Z1O (bitsOf n) (Z2s least 3) cents) (Z04 (l.take most)) := Z5z _ _ _ _ (by rw [Kax]; omega)
 have pW : (Z04 (l.take most)).ps.length = (l.take most).length := Z2A _ _
 obtain ⟨ls, pX⟩ : ∃ z, z = Z1O (bitsOf n) (Z2s least 3) cents := ⟨_, rfl⟩
 obtain ⟨nl, pS⟩ : ∃ z, z = (Z1O (bitsOf n) (Z2s least 3) cents).length := ⟨_, rfl⟩
 obtain ⟨np, pT⟩ : ∃ z, z = (l.take most).length := ⟨_, rfl⟩
 have rP : ls.length = nl := by rw [pX, pS]
 rw [<- pS, <- pT]
 have rQ := Z0 pS
 have rR := Z0 pT
 have rS := Z0 pX
 have qN := Z0 (fun W al cl ap cp (hr : RdLevs W (.slice al ls.length cl) ls) (rT : RdPces W (.slice ap (l.take most).length cp) (Z04 (l.take most)).ps) => Zf9 (pX ▸ rO) hr rT)
 rw [pW, <- pT, rP] at qN
 rw [<- pX]
 unfold Z2r at qN
 have qO : Hid (∀ W al cl ap cp (hr : RdLevs W (.slice al nl cl) ls) (rT : RdPces W (.slice ap np cp) (Z04 (l.take most)).ps), Calls Tryz.prog 27 #[.slice al nl cl, .agg #[.int .u8 1, .int .u8 1, .string ⟨#[49, 48, 48, 50, 51]⟩, .slice ap np cp]] W fun e w' => ∃ g, e = .returned (.tuple #[.slice (some ⟨g, 0, none⟩) np np, .int .i64 0]) /\ Below W.1.size W w' /\ W.1.size <= g /\ IntsAt w' g (Z3W ls (Z04 (l.take most)))) := qN
 obtain ⟨m24, sM⟩ : ∃ z, z = Z04 (l.take most) := ⟨_, rfl⟩
 have sN : bits .and .u32 (by_ : Int) 15 = ((by_ % 16 : Nat) : Int) := Z2G by_ 15 4 sH rfl (by decide)
 have sO : bits .and .u32 ((by_ : Int) / 16) 127 = ((by_ / 16 % 128 : Nat) : Int) := Z2G (by_ / 16) 127 7 (by omega) rfl (by decide)
 have sP : bits .and .u32 ((by_ : Int) / 2048) 3 = ((by_ / 2048 % 4 : Nat) : Int) := Z2G (by_ / 2048) 3 2 (by omega) rfl (by decide)
 have sQ : bits .and .u32 ((by_ : Int) / 8192) 3 = ((by_ / 8192 % 4 : Nat) : Int) := Z2G (by_ / 8192) 3 2 (by omega) rfl (by decide)
 obtain ⟨q1, qQ⟩ : ∃ q, q = by_ % 16 := ⟨_, rfl⟩
 obtain ⟨q2, qR⟩ : ∃ q, q = by_ / 16 % 128 := ⟨_, rfl⟩
 obtain ⟨q3, qS⟩ : ∃ q, q = by_ / 2048 % 4 := ⟨_, rfl⟩
 obtain ⟨q4, qT⟩ : ∃ q, q = by_ / 8192 % 4 := ⟨_, rfl⟩
 have pM : Hid (Z4J (Z6X by_) = .agg #[.int .i64 (1 + (q1 : Int)), .int .i64 (20 + (q2 : Int)), .int .i64 (1 + (q3 : Int)), .int .i64 (1 + (q4 : Int))]) := by rw [qQ, qR, qS, qT]; exact rfl
 rw [<- qQ] at sN
 rw [<- qR] at sO
 rw [<- qS] at sP
 rw [<- qT] at sQ
 have sR : q1 < 16 /\ q2 < 128 /\ q3 < 4 /\ q4 < 4 := by omega
 obtain ⟨tC, tD, tE, tF⟩ := sR
 rw [pM.out]
 clear pS pT pX rP qN rO pW sM m24 qQ qR qS qT
 go_enter Tryz.func10, Tryz.ntmps10
 go_wp2_with (at_make; refine wpList_make_own _ rfl _ _ 23 rfl (w.1.size + 2) 5 i0 (.int .u8 0) 1 Tryz.underlying23 HI.out.1 HI.out.2.1 HI.out.2.2.1 _ _ _ 3 rfl (by first | rfl | simp) rfl (by rw [HI.out.2.2.2]; omega) (by unfold maxLen; omega) (by simp) ?_; intro w1 rU pB)
 obtain ⟨w0, qU⟩ : ∃ w0, w0 = (w.alloc (.cells #[.int .u8 0, .int .u8 0, .string ⟨#[]⟩, .slice none 0 0] 34)).alloc (.cells #[.int .i64 0, .int .i64 0, .int .i64 0, .int .i64 0] 37) := ⟨_, rfl⟩
 rw [<- qU] at pB
 obtain ⟨k1, k2, k3, k4⟩ := Z8M qU
 have qV := pB.size
 have rV : Below w.1.size w w1 := k4.grown pB (by omega) (fun r e => by cases e)
 have rW : w1.1[w.1.size]? = _ := (pB.block _ (by omega) (by simp)).trans k1
 have qP : w1.1[w.1.size + 1]? = _ := (pB.block _ (by omega) (by simp)).trans k2
 rw [k3] at qV
 clear pB qU k1 k2 k3 k4
 go_loopw [16, 17] (fun v i wr => ∃ k : Nat, k <= 3 /\ k <= least.length /\ i = .int .i64 k /\ Below w.1.size w wr /\ w.1.size + 2 <= wr.1.size /\ wr.1[w.1.size]? = some (.cells #[.int .u8 0, .int .u8 0, .string ⟨#[]⟩, .slice none 0 0] 34 (0, 0)) /\
  wr.1[w.1.size + 1]? = some (.cells #[.int .i64 0, .int .i64 0, .int .i64 0, .int .i64 0] 37 (0, 0)) /\ wr.ownsRow (w.1.size + 2) 5 1 v k ((Z2s least k).map Zb1)) (fun _ i _ => 3 - (intOf i).toNat)
 case atStart => exact ⟨0, by omega, ZE _, rfl, rV, qV, rW, qP, by simpa [Z2s, Z6] using rU⟩
 case round =>
  clear rV qV rW qP rU
  obtain ⟨k, tG, rX, rfl, hB, hz, hM, hK, hO⟩ := hrel
  have HM := Z0 hM
  have HK := Z0 hK
  have HO := Z0 hO
  clear hM hK
  by_cases rY : k < least.length
  ·by_cases h3 : k < 3
   ·obtain ⟨g, off, rfl, hg, rZ⟩ := sL.out (by omega)
    have e1 : wr.cell? ⟨g, off + k, none⟩ = some (.int .u8 (least[k].toNat : Int)) := (hB.cell (p := ⟨g, off + k, none⟩) hg).trans (rZ k rY)
    have qW := Zan rY
    obtain ⟨c, hc⟩ : ∃ c, c = least[k] := ⟨_, rfl⟩
    rw [<- hc] at e1 qW
    have tH : c.toNat < 256 := c.toNat_lt
    have sS : ((c.toNat : Int)).tmod 8 = ((c % 8).toNat : Int) := by rw [Kbn (Kce _), UInt8.toNat_mod]; rfl
    have sT : ((c.toNat : Int)) % 8 = ((c % 8).toNat : Int) := by rw [UInt8.toNat_mod]; rfl
    have sU : (c % 8).toNat < 8 := by rw [UInt8.toNat_mod]; exact Kcj _ (by decide)
    have qX := Z0 qW
    obtain ⟨d, hd⟩ : ∃ d, d = c % 8 := ⟨_, rfl⟩
    rw [<- hd] at sS sT sU qX
    clear rZ hc qW hd
    rcases Joins.ownsRow_forms hO with ⟨rfl, pW⟩ | ⟨g2, cap2, rfl⟩
    ·have tI := Z0 pW
     clear pW hO
     have qY := Z0 (Z0f wr [Zb1 d] 5)
     go_wp2_with (at_builtin; refine wpList_append_lies _ rfl _ _ 23 rfl (w.1.size + 2) 5 i0 (.int .u8 0) 1 1 Tryz.underlying23 HI.out.1 HI.out.2.1 HI.out.2.2.1 HI.out.2.2.2 rfl (by decide) _ k _ rfl (HO.out.alloc _) ⟨wr.1.size, 0, none⟩ 1 1 [Zb1 d] rfl rfl qY.out (by simp [Zb1, Value.oneCell']) (by decide) (by unfold maxLen; omega) (by omega) (by simp; omega) _ rfl ?_; intro g9 cap9 w9 qZ pB sV sW)
     go_roundw
     case rel =>
      have pA : ∀ b, b < w.1.size + 2 -> w9.1[b]? = wr.1[b]? := fun b hb => (pB.block b (by rw [Z6]; omega) (fun e => by have := (HO.out.lt b e.symm).1; omega)).trans (ZB _ _ _ (by omega))
      refine ⟨k + 1, by omega, by omega, by go_num, (hB.alloc hB.size _).grown pB (by simp; omega) (fun r e => by have := (HO.out.lt r e).1; omega), ?_, (pA _ (by omega)).trans HM.out, (pA _ (by omega)).trans HK.out, ?_⟩
      ·have := pB.size
       rw [Z6] at this; omega
      ·rw [qX.out, ZD]
       exact qZ
     case measure => simp [intOf]; omega
    ·clear hO
     have qY := Z0 (Z0f wr [Zb1 d] 5)
     go_wp2_with (at_builtin; refine wpList_append_lies _ rfl _ _ 23 rfl (w.1.size + 2) 5 i0 (.int .u8 0) 1 1 Tryz.underlying23 HI.out.1 HI.out.2.1 HI.out.2.2.1 HI.out.2.2.2 rfl (by decide) _ k _ rfl (HO.out.alloc _) ⟨wr.1.size, 0, none⟩ 1 1 [Zb1 d] rfl rfl qY.out (by simp [Zb1, Value.oneCell']) (by decide) (by unfold maxLen; omega) (by omega) (by simp; omega) _ rfl ?_; intro g9 cap9 w9 qZ pB sV sW)
     go_roundw
     case rel =>
      have pA : ∀ b, b < w.1.size + 2 -> w9.1[b]? = wr.1[b]? := fun b hb => (pB.block b (by rw [Z6]; omega) (fun e => by have := (HO.out.lt b e.symm).1; omega)).trans (ZB _ _ _ (by omega))
      refine ⟨k + 1, by omega, by omega, by go_num, (hB.alloc hB.size _).grown pB (by simp; omega) (fun r e => by have := (HO.out.lt r e).1; omega), ?_, (pA _ (by omega)).trans HM.out, (pA _ (by omega)).trans HK.out, ?_⟩
      ·have := pB.size
       rw [Z6] at this; omega
      ·rw [qX.out, ZD]
       exact qZ
     case measure => simp [intOf]; omega
   ·have pK : Z2s least k = Z2s least 3 := by rw [show k = 3 by omega]
    rcases rL.out with ⟨rfl, rfl, pY⟩ | ⟨sb, so, sp, rfl, sX⟩
    ·obtain rfl : l = [] := Kag.1 pY
     obtain rfl : mm = 0 := Nat.le_zero.1 pJ.out.2
     have rA : min (0 : Int) (most : Int) = 0 := by omega
     have sY : min (([] : List UInt16).length : Int) (most : Int) = 0 := rA
     clear rM pY
     have pN := Z0 (Z9c HO.out rX pK qI qJ (rN.out.below2 hB) qL rQ.out)
     have pZ := Z0 (Z4V (cap := 0) ((rJ.out.below hB).take pJ.out.2) pJ.out.1 hm rR.out)
     rw [<- rS.out] at pN
     clear pK hO
     go_upto_region 6 with fail
     go_cut [18, 19] from 41 to 52 (fun x p wx => Zee w wr nl np ls (Z04 (([] : List UInt16).take most)).ps x p wx)
     case first =>
      go_region_with (first
       | (go_at_call 25; refine (pN.out _ (by first | exact (Z9 _ wr).drew | exact bL | exact (Z9 _ wr).drew.alloc (Z1 _) _ | exact ((Z9 _ wr).alloc (Z1 _) _).drew | exact bL.alloc bL.size _)).mono ?_; rintro e wM ⟨al, cl, rfl, pC, bM, pG⟩; (try (have zM : wM.1[wr.1.size]? = some (.cells #[.int .u8 0, .int .u8 0, .string ⟨#[]⟩, .slice none 0 0] 34 (0, 0)) := (pC.block _ (by show wr.1.size < (wr.alloc _).1.size; rw [Z6]; omega)).trans (Z02 wr _)); (obtain ⟨zM0, zM1, zM2, zM3, yM0, yM1, yM2, yM3⟩ := Z0o zM); (have gz := Z1 wr.1.size)); (try (have zM : wM.1[wL.1.size]? = some (.cells #[.int .u8 0, .int .u8 0, .string ⟨#[]⟩, .slice none 0 0] 34 (0, 0)) := (pC.block _ (by show wL.1.size < (wL.alloc _).1.size; rw [Z6]; omega)).trans (Z02 wL _)); (obtain ⟨zM0, zM1, zM2, zM3, yM0, yM1, yM2, yM3⟩ := Z0o zM); (have gz := bL.size)); (try (have zM := (pC.block _ (Z5.1 zL).1).trans zL); (obtain ⟨zM0, zM1, zM2, zM3, yM0, yM1, yM2, yM3⟩ := Z0o zM)); (try (have qA : OwnsP wM wr.1.size (.slice ap np cp) (Z04 (([] : List UInt16).take most)).ps := by first | exact Z09 pH pC | exact Z09 (Z09 pH ((Z9 _ wL).alloc (Z1 _) _)) pC)))
       | (go_at_call 26; refine (pZ.out _ (by first | exact (Z9 _ wr).drew | exact bM | exact (Z9 _ wr).drew.alloc (Z1 _) _ | exact ((Z9 _ wr).alloc (Z1 _) _).drew | exact bM.alloc bM.size _)).mono ?_; rintro e wL ⟨ap, cp, rfl, pD, bL, pH⟩; (try (have zL : wL.1[wr.1.size]? = some (.cells #[.int .u8 0, .int .u8 0, .string ⟨#[]⟩, .slice none 0 0] 34 (0, 0)) := (pD.block _ (by show wr.1.size < (wr.alloc _).1.size; rw [Z6]; omega)).trans (Z02 wr _)); (obtain ⟨zL0, zL1, zL2, zL3, yL0, yL1, yL2, yL3⟩ := Z0o zL); (have gz := Z1 wr.1.size)); (try (have zL : wL.1[wM.1.size]? = some (.cells #[.int .u8 0, .int .u8 0, .string ⟨#[]⟩, .slice none 0 0] 34 (0, 0)) := (pD.block _ (by show wM.1.size < (wM.alloc _).1.size; rw [Z6]; omega)).trans (Z02 wM _)); (obtain ⟨zL0, zL1, zL2, zL3, yL0, yL1, yL2, yL3⟩ := Z0o zL); (have gz := bM.size)); (try (have zL := (pD.block _ (Z5.1 zM).1).trans zM); (obtain ⟨zL0, zL1, zL2, zL3, yL0, yL1, yL2, yL3⟩ := Z0o zL)); (try (have qB : OwnsLv wL wr.1.size (.slice al nl cl) ls := by first | exact pG.below pD | exact (pG.below ((Z9 _ wM).alloc (Z1 _) _)).below pD))))
      all_goals
       go_wp2_with fail
       go_meet
       first
        | exact Z1E bL qB pH
        | exact Z1E bM pG qA
        | exact Z1Z (x := #[]) bL gz zL qB pH
        | exact Z1Z (x := #[]) bM gz zM pG qA
     case rest =>
      obtain ⟨wk, rB⟩ : ∃ x, x = wc := ⟨_, rfl⟩
      subst rB
      obtain ⟨al, cl, g, ap, cp, rfl, rfl, hg, pA, pI, pL, qC⟩ := hcut
      obtain ⟨m0, m1, m2, m3⟩ := Z0H pI
      have rC := (Z5.1 pI).1
      have rD := Z0 pI
      have qD := Z0 pL
      have pM := Z0 qC
      clear pN pZ pI pL qC
      go_upto_region 8 with (go_at_call 27; refine (qO.out _ al cl ap cp qD.out.reads (RdPces.of_owns pM.out)).mono ?_; rintro e w3 ⟨gz, rfl, pE, pF, qE⟩)
      have qF := (pE.block _ rC).trans rD.out
      have pO := (pE.block _ (by have := pA.size; omega)).trans ((pA.block w.1.size (by omega)).trans HM.out)
      have pP := (pE.block _ (by have := pA.size; omega)).trans ((pA.block (w.1.size + 1) (by omega)).trans HK.out)
      clear m0 m1 m2 m3
      obtain ⟨m0, m1, m2, m3⟩ := Z0H qF
      obtain ⟨x0, x1, x2, x3, f0, f1, f2, f3⟩ := Z0o pO
      obtain ⟨r0, r1, r2, r3, d0, d1, d2, d3⟩ := Z0o pP
      have rE := Z0 pO
      have rF := Z0 pP
      have rG := Z0 qE
      have pQ := Z0 pE
      have qG := Z0 pF
      clear qF pO pP qE pE pF qO
      go_big_region
      go_wp2_with fail
      have pR := Z4X (Z6q (B := w.1.size + 2) (t1 := 34) (t2 := 37) (hB.trans ((pA.trans (pQ.out.mono pA.size)).mono hB.size)) ⟨Z1 _, by omega⟩ ⟨by omega, by omega⟩ (by omega) (by decide) (by decide) rE.out rF.out (OwnsLv.mono (qD.out.below pQ.out) hz) (OwnsP.mono (Z09 pM.out pQ.out) hz) rG.out (by have := qG.out; have := pA.size; omega) (.int .u8 1) (.int .u8 1) (.string ⟨#[49, 48, 48, 50, 51]⟩) (.slice ap np cp) (.int .i64 (1 + (q1 : Int))) (.int .i64 (20 + (q2 : Int))) (.int .i64 (1 + (q3 : Int))) (.int .i64 (1 + (q4 : Int))))
      unfold Z2a at pR
      obtain ⟨WF, qH⟩ : ∃ WF, WF = ((((((((w3.setCell ⟨w.1.size, 0, none⟩ (.int .u8 1)).setCell ⟨w.1.size, 1, none⟩ (.int .u8 1)).setCell ⟨w.1.size, 2, none⟩ (.string ⟨#[49, 48, 48, 50, 51]⟩)).setCell ⟨w.1.size, 3, none⟩ (.slice ap np cp)).setCell ⟨w.1.size + 1, 0, none⟩ (.int .i64 (1 + (q1 : Int)))).setCell ⟨w.1.size + 1, 1, none⟩ (.int .i64 (20 + (q2 : Int)))).setCell ⟨w.1.size + 1, 2, none⟩ (.int .i64 (1 + (q3 : Int)))).setCell ⟨w.1.size + 1, 3, none⟩ (.int .i64 (1 + (q4 : Int)))).drew := ⟨_, rfl⟩
      rw [<- qH] at pR ⊢
      obtain ⟨e1, e2, e3, e4, e5, e6⟩ := pR
      clear qH
      refine bodyPost_ret (Z2x rfl _ _ w.1.size (w.1.size + 1) _ _ rfl rfl (run_loadVar_row _ _ _ _ _ _ _ e1 Tryz.underlying34 rfl (by kernel_rfl)) (run_loadVar_row _ _ _ _ _ _ _ e2 Tryz.underlying37 rfl (by kernel_rfl))) rfl ?_
      exact ⟨al, cl, ap, cp, gz, rfl, e3, e4, e5, e6, by have := qG.out; have := pA.size; omega⟩
    ·have sZ : mm <= l.length := pJ.out.2
     exact absurd HX.out (by simp)
  ·have pK : Z2s least k = Z2s least 3 := by
    unfold Z2s
    rw [Kas (by omega), Kas (by omega)]
   rcases rL.out with ⟨rfl, rfl, pY⟩ | ⟨sb, so, sp, rfl, sX⟩
   ·obtain rfl : l = [] := Kag.1 pY
    obtain rfl : mm = 0 := Nat.le_zero.1 pJ.out.2
    have rA : min (0 : Int) (most : Int) = 0 := by omega
    have sY : min (([] : List UInt16).length : Int) (most : Int) = 0 := rA
    clear rM pY
    have pN := Z0 (Z9c HO.out rX pK qI qJ (rN.out.below2 hB) qL rQ.out)
    have pZ := Z0 (Z4V (cap := 0) ((rJ.out.below hB).take pJ.out.2) pJ.out.1 hm rR.out)
    rw [<- rS.out] at pN
    clear pK hO
    go_upto_region 6 with fail
    go_cut [18, 19] from 41 to 52 (fun x p wx => Zee w wr nl np ls (Z04 (([] : List UInt16).take most)).ps x p wx)
    case first =>
     go_region_with (first
      | (go_at_call 25; refine (pN.out _ (by first | exact (Z9 _ wr).drew | exact bL | exact (Z9 _ wr).drew.alloc (Z1 _) _ | exact ((Z9 _ wr).alloc (Z1 _) _).drew | exact bL.alloc bL.size _)).mono ?_; rintro e wM ⟨al, cl, rfl, pC, bM, pG⟩; (try (have zM : wM.1[wr.1.size]? = some (.cells #[.int .u8 0, .int .u8 0, .string ⟨#[]⟩, .slice none 0 0] 34 (0, 0)) := (pC.block _ (by show wr.1.size < (wr.alloc _).1.size; rw [Z6]; omega)).trans (Z02 wr _)); (obtain ⟨zM0, zM1, zM2, zM3, yM0, yM1, yM2, yM3⟩ := Z0o zM); (have gz := Z1 wr.1.size)); (try (have zM : wM.1[wL.1.size]? = some (.cells #[.int .u8 0, .int .u8 0, .string ⟨#[]⟩, .slice none 0 0] 34 (0, 0)) := (pC.block _ (by show wL.1.size < (wL.alloc _).1.size; rw [Z6]; omega)).trans (Z02 wL _)); (obtain ⟨zM0, zM1, zM2, zM3, yM0, yM1, yM2, yM3⟩ := Z0o zM); (have gz := bL.size)); (try (have zM := (pC.block _ (Z5.1 zL).1).trans zL); (obtain ⟨zM0, zM1, zM2, zM3, yM0, yM1, yM2, yM3⟩ := Z0o zM)); (try (have qA : OwnsP wM wr.1.size (.slice ap np cp) (Z04 (([] : List UInt16).take most)).ps := by first | exact Z09 pH pC | exact Z09 (Z09 pH ((Z9 _ wL).alloc (Z1 _) _)) pC)))
      | (go_at_call 26; refine (pZ.out _ (by first | exact (Z9 _ wr).drew | exact bM | exact (Z9 _ wr).drew.alloc (Z1 _) _ | exact ((Z9 _ wr).alloc (Z1 _) _).drew | exact bM.alloc bM.size _)).mono ?_; rintro e wL ⟨ap, cp, rfl, pD, bL, pH⟩; (try (have zL : wL.1[wr.1.size]? = some (.cells #[.int .u8 0, .int .u8 0, .string ⟨#[]⟩, .slice none 0 0] 34 (0, 0)) := (pD.block _ (by show wr.1.size < (wr.alloc _).1.size; rw [Z6]; omega)).trans (Z02 wr _)); (obtain ⟨zL0, zL1, zL2, zL3, yL0, yL1, yL2, yL3⟩ := Z0o zL); (have gz := Z1 wr.1.size)); (try (have zL : wL.1[wM.1.size]? = some (.cells #[.int .u8 0, .int .u8 0, .string ⟨#[]⟩, .slice none 0 0] 34 (0, 0)) := (pD.block _ (by show wM.1.size < (wM.alloc _).1.size; rw [Z6]; omega)).trans (Z02 wM _)); (obtain ⟨zL0, zL1, zL2, zL3, yL0, yL1, yL2, yL3⟩ := Z0o zL); (have gz := bM.size)); (try (have zL := (pD.block _ (Z5.1 zM).1).trans zM); (obtain ⟨zL0, zL1, zL2, zL3, yL0, yL1, yL2, yL3⟩ := Z0o zL)); (try (have qB : OwnsLv wL wr.1.size (.slice al nl cl) ls := by first | exact pG.below pD | exact (pG.below ((Z9 _ wM).alloc (Z1 _) _)).below pD))))
     all_goals
      go_wp2_with fail
      go_meet
      first
       | exact Z1E bL qB pH
       | exact Z1E bM pG qA
       | exact Z1Z (x := #[]) bL gz zL qB pH
       | exact Z1Z (x := #[]) bM gz zM pG qA
    case rest =>
     obtain ⟨wk, rB⟩ : ∃ x, x = wc := ⟨_, rfl⟩
     subst rB
     obtain ⟨al, cl, g, ap, cp, rfl, rfl, hg, pA, pI, pL, qC⟩ := hcut
     obtain ⟨m0, m1, m2, m3⟩ := Z0H pI
     have rC := (Z5.1 pI).1
     have rD := Z0 pI
     have qD := Z0 pL
     have pM := Z0 qC
     clear pN pZ pI pL qC
     go_upto_region 8 with (go_at_call 27; refine (qO.out _ al cl ap cp qD.out.reads (RdPces.of_owns pM.out)).mono ?_; rintro e w3 ⟨gz, rfl, pE, pF, qE⟩)
     have qF := (pE.block _ rC).trans rD.out
     have pO := (pE.block _ (by have := pA.size; omega)).trans ((pA.block w.1.size (by omega)).trans HM.out)
     have pP := (pE.block _ (by have := pA.size; omega)).trans ((pA.block (w.1.size + 1) (by omega)).trans HK.out)
     clear m0 m1 m2 m3
     obtain ⟨m0, m1, m2, m3⟩ := Z0H qF
     obtain ⟨x0, x1, x2, x3, f0, f1, f2, f3⟩ := Z0o pO
     obtain ⟨r0, r1, r2, r3, d0, d1, d2, d3⟩ := Z0o pP
     have rE := Z0 pO
     have rF := Z0 pP
     have rG := Z0 qE
     have pQ := Z0 pE
     have qG := Z0 pF
     clear qF pO pP qE pE pF qO
     go_big_region
     go_wp2_with fail
     have pR := Z4X (Z6q (B := w.1.size + 2) (t1 := 34) (t2 := 37) (hB.trans ((pA.trans (pQ.out.mono pA.size)).mono hB.size)) ⟨Z1 _, by omega⟩ ⟨by omega, by omega⟩ (by omega) (by decide) (by decide) rE.out rF.out (OwnsLv.mono (qD.out.below pQ.out) hz) (OwnsP.mono (Z09 pM.out pQ.out) hz) rG.out (by have := qG.out; have := pA.size; omega) (.int .u8 1) (.int .u8 1) (.string ⟨#[49, 48, 48, 50, 51]⟩) (.slice ap np cp) (.int .i64 (1 + (q1 : Int))) (.int .i64 (20 + (q2 : Int))) (.int .i64 (1 + (q3 : Int))) (.int .i64 (1 + (q4 : Int))))
     unfold Z2a at pR
     obtain ⟨WF, qH⟩ : ∃ WF, WF = ((((((((w3.setCell ⟨w.1.size, 0, none⟩ (.int .u8 1)).setCell ⟨w.1.size, 1, none⟩ (.int .u8 1)).setCell ⟨w.1.size, 2, none⟩ (.string ⟨#[49, 48, 48, 50, 51]⟩)).setCell ⟨w.1.size, 3, none⟩ (.slice ap np cp)).setCell ⟨w.1.size + 1, 0, none⟩ (.int .i64 (1 + (q1 : Int)))).setCell ⟨w.1.size + 1, 1, none⟩ (.int .i64 (20 + (q2 : Int)))).setCell ⟨w.1.size + 1, 2, none⟩ (.int .i64 (1 + (q3 : Int)))).setCell ⟨w.1.size + 1, 3, none⟩ (.int .i64 (1 + (q4 : Int)))).drew := ⟨_, rfl⟩
     rw [<- qH] at pR ⊢
     obtain ⟨e1, e2, e3, e4, e5, e6⟩ := pR
     clear qH
     refine bodyPost_ret (Z2x rfl _ _ w.1.size (w.1.size + 1) _ _ rfl rfl (run_loadVar_row _ _ _ _ _ _ _ e1 Tryz.underlying34 rfl (by kernel_rfl)) (run_loadVar_row _ _ _ _ _ _ _ e2 Tryz.underlying37 rfl (by kernel_rfl))) rfl ?_
     exact ⟨al, cl, ap, cp, gz, rfl, e3, e4, e5, e6, by have := qG.out; have := pA.size; omega⟩
   ·have sZ : mm <= l.length := pJ.out.2
    exact absurd HX.out (by simp)
end Go.Proofs.YtlgajongmkhcnaaGreatDoor
