import Derived.Test.YtlgajongmkhcnaaGreatDoorQZ
import Derived.Test.YtlgajongmkhcnaaGreatDoorQF
import Derived.Test.YtlgajongmkhcnaaGreatDoorQH
import Derived.Test.YtlgajongmkhcnaaGreatDoorQN
import Derived.BigRegion
import Derived.Deep.RegionWith
import Derived.Deep.DeepCutAuto
set_option linter.unusedVariables false
set_option linter.unusedSimpArgs false
set_option maxHeartbeats 32000000
namespace Go.Proofs.YtlgajongmkhcnaaGreatDoor
open Go.RowKit Go.Sort
set_option maxRecDepth 100000
theorem Tryz.infoU8 : (Tryz.prog.info? 5).map (fun i => (i.zero, i.size, i.bytes)) = some (some (.int .u8 0), 1, 1) := by kernel_rfl
def Z2h (least : List UInt8) (k : Nat) : List UInt8 := (least.take k).map (· % 8)
theorem Z9F {least : List UInt8} {k : Nat} (h : k < least.length) : Z2h least (k + 1) = Z2h least k ++ [least[k] % 8] := by
 unfold Z2h; rw [Z8 h, ZD]; rfl
def Zaf (c : UInt8) : Value := .int .u8 (c.toNat : Int)
theorem Zgz (least : List UInt8) (k : Nat) : (Z2h least k).length <= k := by unfold Z2h; rw [Z7, List.length_take]; omega
theorem RdBytes.of_row {w : World} {base : Nat} {v : Value} {bs : List UInt8} (h : w.ownsRow base 5 1 v bs.length (bs.map Zaf)) : RdBytes w v bs := by
 rcases Joins.ownsRow_forms h with ⟨rfl, hp⟩ | ⟨g, cap, rfl⟩
 ·obtain rfl : bs = [] := List.length_eq_zero_iff.1 hp
  exact ⟨none, 0, rfl, fun h => absurd h (by simp)⟩
 ·exact ⟨_, cap, rfl, fun _ => ⟨g, 0, rfl, (h.lt g rfl).2, fun i hi => by rw [Nat.zero_add, h.cellAt i (by omega), List.getElem?_map, Z3 hi]; rfl⟩⟩
theorem RdBytes.below2 {w w' : World} {v : Value} {zs : List UInt8} (h : RdBytes w v zs) (hb : Below w.1.size w w') : RdBytes w' v zs := h.below hb
theorem ZbF {w : World} {base base' : Nat} {e : TypeId} {size : Nat} {v : Value} {n : Nat} {xs : List Value} (h : w.ownsRow base e size v n xs) (hb : base' <= base) : w.ownsRow base' e size v n xs := by
 obtain ⟨h1, h2 | ⟨g, cap, cur, hv, h3, h4⟩⟩ := h
 ·exact ⟨h1, .inl h2⟩
 ·exact ⟨h1, .inr ⟨g, cap, cur, hv, Nat.le_trans hb h3, h4⟩⟩
theorem OwnsLv.mono {w : World} {base base' : Nat} {v : Value} {ls : List Lev} (h : OwnsLv w base v ls) (hb : base' <= base) : OwnsLv w base' v ls := by
 obtain ⟨L, hL, hLr, hLo⟩ := h
 exact ⟨L, hL, fun p hp => ZbF (hLr p hp) hb, ZbF hLo hb⟩
theorem Z8A {n : Int} {v vc : Value} {least cents : List UInt8} {wr : World} {k base : Nat} (ho : wr.ownsRow base 5 1 v k ((Z2h least k).map Zaf)) (hk : k <= least.length) (hfin : Z2h least k = Z2h least 3) (hn0 : 0 <= n) (hn1 : n < 4294967296) (hrc : RdBytes wr vc cents) (hcl : cents.length <= maxLen)
 {nl : Nat} (hnl : nl = (Z1C (bitsOf n) (Z2h least 3) cents).length) : ∀ W, Below wr.1.size wr W -> Calls Tryz.prog 25 #[.int .u32 n, v, vc] W fun e w' => ∃ al cl, e = .returned (.slice al nl cl) /\ Below W.1.size W w' /\ Below wr.1.size wr w' /\ OwnsLv w' wr.1.size (.slice al nl cl) (Z1C (bitsOf n) (Z2h least 3) cents) := fun W hW => by
 have hlk : (Z2h least k).length = k := by unfold Z2h; rw [Z7, List.length_take]; omega
 have hbt : RdBytes wr v (Z2h least 3) := by
  rw [<- hfin]
  refine RdBytes.of_row (base := base) ?_
  rw [hlk]
  exact ho
 refine (Zgy n v vc (Z2h least 3) cents W hn0 hn1 (hbt.below hW) (hrc.below hW) (by have := Zgz least 3; unfold maxLen; omega) hcl).mono ?_
 rintro e w' ⟨v', rfl, hb, ho⟩
 obtain ⟨al, cl, rfl⟩ := ho.form
 rw [hnl]
 exact ⟨al, cl, rfl, hb, hW.trans (hb.mono hW.size), ho.mono hW.size⟩
theorem Z4v {a : Option Addr} {mm cap most : Nat} {l : List UInt16} {wr : World} (h : RdU16 wr (.slice a mm cap) (l.take mm)) (he : l.take mm = l.take most) (hm : most <= 2000) {np : Nat} (hnp : np = (l.take most).length) :
 ∀ W, Below wr.1.size wr W -> Calls Tryz.prog 26 #[.int .u8 0, .slice a mm cap] W fun e w' => ∃ ap cp, e = .returned (.agg #[.int .u8 1, .int .u8 1, .string ⟨#[49, 48, 48, 50, 51]⟩, .slice ap np cp]) /\ Below W.1.size W w' /\ Below wr.1.size wr w' /\ OwnsP w' wr.1.size (.slice ap np cp) (Z08 (l.take most)).ps := fun W hW => by
 rw [he] at h
 refine (ZcZ (l.take most) _ W (h.below hW) (by rw [List.length_take]; omega)).mono ?_
 rintro e w' ⟨ap, cp, rfl, hb, ho⟩
 rw [<- hnp] at ho ⊢
 exact ⟨ap, cp, rfl, hb, hW.trans (hb.mono hW.size), OwnsP.mono ho hW.size⟩
theorem Z2r (a m j : Nat) (ha : a < 4294967296) (hm : m = 2 ^ j - 1) (hj : j <= 32) : bits .and .u32 (a : Int) (m : Int) = ((a % 2 ^ j : Nat) : Int) := by
 have hm2 : m < 4294967296 := by
  have : 2 ^ j <= 2 ^ 32 := Nat.pow_le_pow_right (by decide) hj
  have h0 : 0 < 2 ^ j := Nat.pow_pos (by decide)
  omega
 have h1 : (BitVec.ofInt 32 (a : Int)).toNat = a := by
  rw [BitVec.ofInt_natCast, BitVec.toNat_ofNat]; exact Nat.mod_eq_of_lt (by omega)
 have h2 : (BitVec.ofInt 32 (m : Int)).toNat = m := by
  rw [BitVec.ofInt_natCast, BitVec.toNat_ofNat]; exact Nat.mod_eq_of_lt (by omega)
 have hw : ∀ n : Int, IntKind.u32.wrap n = n % 4294967296 := fun n => by simp [IntKind.wrap, IntKind.bits, IntKind.signed]
 show IntKind.u32.wrap ((BitVec.ofInt 32 (a : Int) &&& BitVec.ofInt 32 (m : Int)).toNat : Int) = _
 rw [BitVec.toNat_and, h1, h2, hw, hm, Nat.and_two_pow_sub_one_eq_mod]
 have : a % 2 ^ j <= a := Nat.mod_le _ _
 omega
def Z7e (b : Nat) : Pck := ⟨1 + ((b % 16 : Nat) : Int), 20 + ((b / 16 % 128 : Nat) : Int), 1 + ((b / 2048 % 4 : Nat) : Int), 1 + ((b / 8192 % 4 : Nat) : Int)⟩
theorem Zgi (b : Nat) : Z7f (Z7e b) = true := by
 unfold Z7f Z7e
 rw [ZF, decide_eq_true_eq, decide_eq_true_eq]
 dsimp only
 omega
theorem ZaB (b : Nat) (l : List UInt16) : ∀ p ∈ (Z08 l).ps, p.grams <= (Z7e b).grams := by
 intro p hp
 unfold Z08 Zav at hp
 obtain ⟨i, _, rfl⟩ := List.mem_map.1 hp
 unfold p24 Z7e
 dsimp only
 omega
theorem Z2m {P : Program} {fn : Func} {u p v q : Tmp} {t1 t2 : TypeId} (h : fn.results = #[.tmp u, .cell p t1, .tmp v, .cell q t2]) (tmps : Array Value) (w : World) (g1 g2 : Nat) (x y : Value)
 (hp : tmps.getD p undef = .pointer (some ⟨g1, 0, none⟩)) (hq : tmps.getD q undef = .pointer (some ⟨g2, 0, none⟩)) (hL : (loadVar t1 ⟨g1, 0, none⟩).run P w = .ok x w) (hL2 : (loadVar t2 ⟨g2, 0, none⟩).run P w = .ok y w) :
 (results fn tmps).run P w = .ok (.tuple #[tmps.getD u undef, x, tmps.getD v undef, y]) w := by
 have hp' : tmps[p]?.getD undef = .pointer (some ⟨g1, 0, none⟩) := by simpa using hp
 have hq' : tmps[q]?.getD undef = .pointer (some ⟨g2, 0, none⟩) := by simpa using hq
 simp [results, h, hp', hq', asAddr, hL, hL2, Result.andThen]
abbrev Z1Z (w : World) (g : Nat) (a b c d : Value) : World := (((w.setCell ⟨g, 0, none⟩ a).setCell ⟨g, 1, none⟩ b).setCell ⟨g, 2, none⟩ c).setCell ⟨g, 3, none⟩ d
theorem Z2M (w : World) (g : Nat) (a b c d : Value) : w.grownBy (Z1Z w g a b c d) (some g) :=
 ⟨rfl, rfl, rfl, by simp [World.setCell], fun k hk hne => by
  have hk' : k ≠ g := fun e => hne (by rw [e])
  have hs : ∀ (W : World) (p : Addr) (u : Value), p.block = g -> (W.setCell p u).1[k]? = W.1[k]? := fun W p u hp => ZA _ _ _ _ (fun e => hk' (by rw [e, hp]))
  show ((((w.setCell ⟨g, 0, none⟩ a).setCell ⟨g, 1, none⟩ b).setCell ⟨g, 2, none⟩ c).setCell ⟨g, 3, none⟩ d).1[k]? = _
  rw [hs _ _ _ rfl, hs _ _ _ rfl, hs _ _ _ rfl, hs _ _ _ rfl]⟩
theorem Z3M {B : Nat} {w0 w : World} (h : Below B w0 w) {g : Nat} (hg : B <= g) (a b c d : Value) : Below B w0 (Z1Z w g a b c d) :=
 (((h.setCell (p := ⟨g, 0, none⟩) hg _).setCell (p := ⟨g, 1, none⟩) hg _).setCell (p := ⟨g, 2, none⟩) hg _).setCell (p := ⟨g, 3, none⟩) hg _
theorem ZiX {w : World} {B g gz : Nat} {v1 v2 : Value} {ls : List Lev} {ps : List Pce} {zs : List Int} (hg : g < B) (hl : OwnsLv w B v1 ls) (hp : OwnsP w B v2 ps) (hz : IntsAt w gz zs) (hgz : B <= gz) {x : Array Value} {t : TypeId} (h0 : w.1[g]? = some (.cells x t (0, 0)))
 (ht : t ≠ 150 /\ t ≠ 63) (a b c d : Value) : OwnsLv (Z1Z w g a b c d) B v1 ls /\ OwnsP (Z1Z w g a b c d) B v2 ps /\ IntsAt (Z1Z w g a b c d) gz zs := by
 have hgb := Z2M w g a b c d
 have hn : ∀ T : TypeId, t ≠ T -> ∀ q, some g = some q -> ∀ cur fr, w.1[q]? ≠ some (.cells cur T fr) := fun T hT q e cur fr e2 => by
  injection e with e
  rw [<- e, h0] at e2
  injection e2 with e2
  injection e2 with e3 e4 e5
  exact hT e4
 refine ⟨hl.grown hgb (hn _ ht.1) (hn _ ht.2), Z3w hp hg _ _ _ _, ?_⟩
 refine (hgb.block gz (Z5.1 hz).1 (fun e => ?_)).trans hz
 injection e with e
 omega
def Zdo (w wr : World) (nl np : Nat) (ls : List Lev) (ps : List Pce) (x p : Value) (wx : World) : Prop :=
 ∃ al cl g ap cp, x = .slice al nl cl /\ p = .pointer (some ⟨g, 0, none⟩) /\ wr.1.size <= g /\ Below wr.1.size wr wx /\ wx.1[g]? = some (.cells #[.int .u8 1, .int .u8 1, .string ⟨#[49, 48, 48, 50, 51]⟩, .slice ap np cp] 34 (0, 0)) /\ OwnsLv wx wr.1.size (.slice al nl cl) ls /\ OwnsP wx wr.1.size (.slice ap np cp) ps
theorem Z1t {w wr wX : World} {nl np : Nat} {ls : List Lev} {ps : List Pce} {al ap : Option Addr} {cl cp : Nat} (hX : Below wr.1.size wr wX) (hl : OwnsLv wX wr.1.size (.slice al nl cl) ls) (hp : OwnsP wX wr.1.size (.slice ap np cp) ps) :
 Zdo w wr nl np ls ps (.slice al nl cl) (.pointer (some ⟨wX.1.size, 0, none⟩)) (wX.alloc (.cells #[.int .u8 1, .int .u8 1, .string ⟨#[49, 48, 48, 50, 51]⟩, .slice ap np cp] 34)) := by
 have hb : Below wX.1.size wX (wX.alloc (.cells #[.int .u8 1, .int .u8 1, .string ⟨#[49, 48, 48, 50, 51]⟩, .slice ap np cp] 34)) := (Z9 _ _).alloc (Z1 _) _
 exact ⟨al, cl, _, ap, cp, rfl, rfl, hX.size, hX.trans (hb.mono hX.size), Z01 wX _, hl.below hb, Z09 hp hb⟩
theorem Z1O {w wr wX : World} {nl np : Nat} {ls : List Lev} {ps : List Pce} {al ap : Option Addr} {cl cp g : Nat} {x : Array Value} (hX : Below wr.1.size wr wX) (hg : wr.1.size <= g) (h0 : wX.1[g]? = some (.cells #[.int .u8 0, .int .u8 0, .string ⟨#[]⟩, .slice none 0 0] 34 (0, 0))) (hl : OwnsLv wX wr.1.size (.slice al nl cl) ls) (hp : OwnsP wX wr.1.size (.slice ap np cp) ps) :
 Zdo w wr nl np ls ps (.slice al nl cl) (.pointer (some ⟨g, 0, none⟩)) ((((wX.setCell ⟨g, 0, none⟩ (.int .u8 1)).setCell ⟨g, 1, none⟩ (.int .u8 1)).setCell ⟨g, 2, none⟩ (.string ⟨#[49, 48, 48, 50, 51]⟩)).setCell ⟨g, 3, none⟩ (.slice ap np cp)) := by
 have hgb := Z2M wX g (.int .u8 1) (.int .u8 1) (.string ⟨#[49, 48, 48, 50, 51]⟩) (.slice ap np cp)
 have hn : ∀ T : TypeId, 34 ≠ T -> ∀ q, some g = some q -> ∀ cur fr, wX.1[q]? ≠ some (.cells cur T fr) := fun T hT q e cur fr e2 => by
  injection e with e
  rw [<- e, h0] at e2
  injection e2 with e2
  injection e2 with e3 e4 e5
  exact hT e4
 exact ⟨al, cl, g, ap, cp, rfl, rfl, hg, Z3M hX hg _ _ _ _, Zhd h0, hl.grown hgb (hn _ (by decide)) (hn _ (by decide)), Z0v hp hgb (hn _ (by decide))⟩
theorem Z5T {w w3 : World} {B g1 g2 gz : Nat} {v1 v2 : Value} {ls : List Lev} {ps : List Pce} {zs : List Int} (hb : Below w.1.size w w3) (h1 : w.1.size <= g1 /\ g1 < B) (h2 : w.1.size <= g2 /\ g2 < B) (hne : g1 ≠ g2) {x0 x1 x2 x3 y0 y1 y2 y3 : Value} {t1 t2 : TypeId}
 (ht1 : t1 ≠ 150 /\ t1 ≠ 63) (ht2 : t2 ≠ 150 /\ t2 ≠ 63) (hx : w3.1[g1]? = some (.cells #[x0, x1, x2, x3] t1 (0, 0))) (hy : w3.1[g2]? = some (.cells #[y0, y1, y2, y3] t2 (0, 0)))
 (hl : OwnsLv w3 B v1 ls) (hp : OwnsP w3 B v2 ps) (hz : IntsAt w3 gz zs) (hgz : B <= gz) (a b c d a' b' c' d' : Value) :
 (Z1Z (Z1Z w3 g1 a b c d) g2 a' b' c' d').1[g1]? = some (.cells #[a, b, c, d] t1 (0, 0)) /\ (Z1Z (Z1Z w3 g1 a b c d) g2 a' b' c' d').1[g2]? = some (.cells #[a', b', c', d'] t2 (0, 0)) /\ Below w.1.size w (Z1Z (Z1Z w3 g1 a b c d) g2 a' b' c' d') /\
 OwnsLv (Z1Z (Z1Z w3 g1 a b c d) g2 a' b' c' d') w.1.size v1 ls /\ OwnsP (Z1Z (Z1Z w3 g1 a b c d) g2 a' b' c' d') w.1.size v2 ps /\ IntsAt (Z1Z (Z1Z w3 g1 a b c d) g2 a' b' c' d') gz zs := by
 obtain ⟨w4, hw4⟩ : ∃ w4, w4 = Z1Z w3 g1 a b c d := ⟨_, rfl⟩
 obtain ⟨l4, p4, z4⟩ := ZiX h1.2 hl hp hz hgz hx ht1 a b c d
 have x4 : (Z1Z w3 g1 a b c d).1[g1]? = some (.cells #[a, b, c, d] t1 (0, 0)) := Zhd hx
 have hg4 := Z2M w3 g1 a b c d
 have b4 := Z3M hb h1.1 a b c d
 have y4 : (Z1Z w3 g1 a b c d).1[g2]? = _ := (hg4.block g2 (Z5.1 hy).1 (fun e => hne (Option.some.inj e).symm)).trans hy
 rw [<- hw4] at l4 p4 z4 x4 b4 y4 ⊢
 obtain ⟨l5, p5, z5⟩ := ZiX h2.2 l4 p4 z4 hgz y4 ht2 a' b' c' d'
 have hg5 := Z2M w4 g2 a' b' c' d'
 exact ⟨(hg5.block g1 (Z5.1 x4).1 (fun e => hne (Option.some.inj e))).trans x4, Zhd y4, Z3M b4 h2.1 _ _ _ _, l5.mono (by omega), OwnsP.mono p5 (by omega), z5⟩
theorem Z4w {w W : World} {g1 g2 gz : Nat} {v1 v2 : Value} {ls : List Lev} {ps : List Pce} {zs : List Int} {c1 c2 : Array Value} {t1 t2 : TypeId} (h : W.1[g1]? = some (.cells c1 t1 (0, 0)) /\ W.1[g2]? = some (.cells c2 t2 (0, 0)) /\ Below w.1.size w W /\ OwnsLv W w.1.size v1 ls /\ OwnsP W w.1.size v2 ps /\ IntsAt W gz zs) :
 W.drew.1[g1]? = some (.cells c1 t1 (0, 0)) /\ W.drew.1[g2]? = some (.cells c2 t2 (0, 0)) /\ Below w.1.size w W.drew /\ OwnsLv W.drew w.1.size v1 ls /\ OwnsP W.drew w.1.size v2 ps /\ IntsAt W.drew gz zs := by
 obtain ⟨e1, e2, e3, e4, e5, e6⟩ := h
 exact ⟨e1, e2, e3.drew, e4.below (Z9 _ W).drew, Z09 e5 (Z9 _ W).drew, e6⟩
theorem Zd2 (n : Int) (by_ : Nat) (vl vc vs : Value) (least cents : List UInt8) (l : List UInt16) (most : Nat) (w : World) (hn0 : 0 <= n) (hn1 : n < 4294967296) (hb1 : by_ < 4294967296) (hrl : RdBytes w vl least) (hrc : RdBytes w vc cents) (hrs : Z8e w vs l)
 (hll : least.length <= maxLen) (hcl : cents.length <= maxLen) (hsl : l.length <= maxLen) (hm : most <= 2000) (hx : vs = .slice none 0 0) :
 Calls Tryz.prog 10 #[.int .u32 n, vl, vc, vs, .int .i64 most, .int .u32 by_] w fun e w' => ∃ al cl ap cp gz, e = .returned (.tuple #[.slice al (Z1C (bitsOf n) (Z2h least 3) cents).length cl, .agg #[.int .u8 1, .int .u8 1, .string ⟨#[49, 48, 48, 50, 51]⟩, .slice ap (l.take most).length cp], .slice (some ⟨gz, 0, none⟩) (l.take most).length (l.take most).length, Z3I (Z7e by_)]) /\ Below w.1.size w w' /\
  OwnsLv w' w.1.size (.slice al (Z1C (bitsOf n) (Z2h least 3) cents).length cl) (Z1C (bitsOf n) (Z2h least 3) cents) /\ OwnsP w' w.1.size (.slice ap (l.take most).length cp) (Z08 (l.take most)).ps /\ IntsAt w' gz (Z4h (Z1C (bitsOf n) (Z2h least 3) cents) (Z08 (l.take most))) /\ w.1.size <= gz := by
 obtain ⟨a, ca, rfl, hca⟩ := hrl
 obtain ⟨hrs, hfm⟩ := hrs
 have hrs' := hrs
 obtain ⟨as_, cs_, rfl, hcs⟩ := hrs'
 have HRS := Z0 hrs
 have hfm2 : (as_ = none /\ cs_ = 0 /\ l.length = 0) \/ (∃ sb so sp, as_ = some ⟨sb, so, sp⟩ /\ l.length <= cs_) := by
  rcases hfm with h | ⟨b, off, spot, cap, h, hc⟩
  ·injection h with h1 h2 h3
   exact .inl ⟨h1, h3, h2⟩
  ·injection h with h1 h2 h3
   exact .inr ⟨b, off, spot, h1, by omega⟩
 have HFM := Z0 hfm2
 have HX : Hid (as_ = none) := by injection hx
 clear hx
 obtain ⟨mm, hmm⟩ : ∃ mm : Nat, min (l.length : Int) (most : Int) = (mm : Int) := ⟨min l.length most, by omega⟩
 have HMM : Hid (l.take mm = l.take most /\ mm <= l.length) := by
  refine ⟨?_, by omega⟩
  by_cases h : l.length <= most
  ·rw [List.take_of_length_le (by omega), List.take_of_length_le h]
  ·rw [show mm = most by omega]
 have HRC := Z0 hrc
 have HCA := Z0 hca
 obtain ⟨i0, hi⟩ := info_parts Tryz.infoU8
 have HI := Z0 hi
 clear hi hca hcs hrc hrs hfm hfm2
 have hhp : HasPlan (Z1C (bitsOf n) (Z2h least 3) cents) (Z08 (l.take most)) := Z56 _ _ _ _ (by rw [List.length_take]; omega)
 have hpn : (Z08 (l.take most)).ps.length = (l.take most).length := Z2P _ _
 obtain ⟨ls, hls⟩ : ∃ z, z = Z1C (bitsOf n) (Z2h least 3) cents := ⟨_, rfl⟩
 obtain ⟨nl, hnl⟩ : ∃ z, z = (Z1C (bitsOf n) (Z2h least 3) cents).length := ⟨_, rfl⟩
 obtain ⟨np, hnp⟩ : ∃ z, z = (l.take most).length := ⟨_, rfl⟩
 have hlnl : ls.length = nl := by rw [hls, hnl]
 rw [<- hnl, <- hnp]
 have HNL := Z0 hnl
 have HNP := Z0 hnp
 have HLS := Z0 hls
 have HPL := Z0 (fun W al cl ap cp (hr : RdLevs W (.slice al ls.length cl) ls) (hrp : RdPces W (.slice ap (l.take most).length cp) (Z08 (l.take most)).ps) => Ze7 (hls ▸ hhp) hr hrp)
 rw [hpn, <- hnp, hlnl] at HPL
 rw [<- hls]
 unfold Z22 at HPL
 have HPL2 : Hid (∀ W al cl ap cp (hr : RdLevs W (.slice al nl cl) ls) (hrp : RdPces W (.slice ap np cp) (Z08 (l.take most)).ps), Calls Tryz.prog 27 #[.slice al nl cl, .agg #[.int .u8 1, .int .u8 1, .string ⟨#[49, 48, 48, 50, 51]⟩, .slice ap np cp]] W fun e w' => ∃ g, e = .returned (.tuple #[.slice (some ⟨g, 0, none⟩) np np, .int .i64 0]) /\ Below W.1.size W w' /\ W.1.size <= g /\ IntsAt w' g (Z4h ls (Z08 (l.take most)))) := HPL
 obtain ⟨m24, hm24⟩ : ∃ z, z = Z08 (l.take most) := ⟨_, rfl⟩
 have hand1 : bits .and .u32 (by_ : Int) 15 = ((by_ % 16 : Nat) : Int) := Z2r by_ 15 4 hb1 rfl (by decide)
 have hand2 : bits .and .u32 ((by_ : Int) / 16) 127 = ((by_ / 16 % 128 : Nat) : Int) := Z2r (by_ / 16) 127 7 (by omega) rfl (by decide)
 have hand3 : bits .and .u32 ((by_ : Int) / 2048) 3 = ((by_ / 2048 % 4 : Nat) : Int) := Z2r (by_ / 2048) 3 2 (by omega) rfl (by decide)
 have hand4 : bits .and .u32 ((by_ : Int) / 8192) 3 = ((by_ / 8192 % 4 : Nat) : Int) := Z2r (by_ / 8192) 3 2 (by omega) rfl (by decide)
 obtain ⟨q1, hq1⟩ : ∃ q, q = by_ % 16 := ⟨_, rfl⟩
 obtain ⟨q2, hq2⟩ : ∃ q, q = by_ / 16 % 128 := ⟨_, rfl⟩
 obtain ⟨q3, hq3⟩ : ∃ q, q = by_ / 2048 % 4 := ⟨_, rfl⟩
 obtain ⟨q4, hq4⟩ : ∃ q, q = by_ / 8192 % 4 := ⟨_, rfl⟩
 have HPK : Hid (Z3I (Z7e by_) = .agg #[.int .i64 (1 + (q1 : Int)), .int .i64 (20 + (q2 : Int)), .int .i64 (1 + (q3 : Int)), .int .i64 (1 + (q4 : Int))]) := by rw [hq1, hq2, hq3, hq4]; exact rfl
 rw [<- hq1] at hand1
 rw [<- hq2] at hand2
 rw [<- hq3] at hand3
 rw [<- hq4] at hand4
 have hqb : q1 < 16 /\ q2 < 128 /\ q3 < 4 /\ q4 < 4 := by omega
 obtain ⟨hqb1, hqb2, hqb3, hqb4⟩ := hqb
 rw [HPK.out]
 clear hnl hnp hls hlnl HPL hhp hpn hm24 m24 hq1 hq2 hq3 hq4
 go_enter Tryz.func10, Tryz.ntmps10
 go_wp2_with (at_make; refine wpList_make_own _ rfl _ _ 23 rfl (w.1.size + 2) 5 i0 (.int .u8 0) 1 Tryz.underlying23 HI.out.1 HI.out.2.1 HI.out.2.2.1 _ _ _ 3 rfl (by first | rfl | simp) rfl (by rw [HI.out.2.2.2]; omega) (by unfold maxLen; omega) (by simp) ?_; intro w1 hown hgrow)
 obtain ⟨w0, hw0⟩ : ∃ w0, w0 = (w.alloc (.cells #[.int .u8 0, .int .u8 0, .string ⟨#[]⟩, .slice none 0 0] 34)).alloc (.cells #[.int .i64 0, .int .i64 0, .int .i64 0, .int .i64 0] 37) := ⟨_, rfl⟩
 rw [<- hw0] at hgrow
 obtain ⟨k1, k2, k3, k4⟩ := Z8b hw0
 have hz1 := hgrow.size
 have hb2 : Below w.1.size w w1 := k4.grown hgrow (by omega) (fun r e => by cases e)
 have hm1 : w1.1[w.1.size]? = _ := (hgrow.block _ (by omega) (by simp)).trans k1
 have hm2 : w1.1[w.1.size + 1]? = _ := (hgrow.block _ (by omega) (by simp)).trans k2
 rw [k3] at hz1
 clear hgrow hw0 k1 k2 k3 k4
 go_loopw [16, 17] (fun v i wr => ∃ k : Nat, k <= 3 /\ k <= least.length /\ i = .int .i64 k /\ Below w.1.size w wr /\ w.1.size + 2 <= wr.1.size /\ wr.1[w.1.size]? = some (.cells #[.int .u8 0, .int .u8 0, .string ⟨#[]⟩, .slice none 0 0] 34 (0, 0)) /\
  wr.1[w.1.size + 1]? = some (.cells #[.int .i64 0, .int .i64 0, .int .i64 0, .int .i64 0] 37 (0, 0)) /\ wr.ownsRow (w.1.size + 2) 5 1 v k ((Z2h least k).map Zaf)) (fun _ i _ => 3 - (intOf i).toNat)
 case atStart => exact ⟨0, by omega, ZE _, rfl, hb2, hz1, hm1, hm2, by simpa [Z2h, Z6] using hown⟩
 case round =>
  clear hb2 hz1 hm1 hm2 hown
  obtain ⟨k, hk3, hkl, rfl, hB, hz, hM, hK, hO⟩ := hrel
  have HM := Z0 hM
  have HK := Z0 hK
  have HO := Z0 hO
  clear hM hK
  by_cases hlt : k < least.length
  ·by_cases h3 : k < 3
   ·obtain ⟨g, off, rfl, hg, hat⟩ := HCA.out (by omega)
    have e1 : wr.cell? ⟨g, off + k, none⟩ = some (.int .u8 (least[k].toNat : Int)) := (hB.cell (p := ⟨g, off + k, none⟩) hg).trans (hat k hlt)
    have hsu := Z9F hlt
    obtain ⟨c, hc⟩ : ∃ c, c = least[k] := ⟨_, rfl⟩
    rw [<- hc] at e1 hsu
    have hcb : c.toNat < 256 := c.toNat_lt
    have hmod : ((c.toNat : Int)).tmod 8 = ((c % 8).toNat : Int) := by rw [Int.tmod_eq_emod_of_nonneg (Int.natCast_nonneg _), UInt8.toNat_mod]; rfl
    have hmod2 : ((c.toNat : Int)) % 8 = ((c % 8).toNat : Int) := by rw [UInt8.toNat_mod]; rfl
    have hcb2 : (c % 8).toNat < 8 := by rw [UInt8.toNat_mod]; exact Nat.mod_lt _ (by decide)
    have HSU := Z0 hsu
    obtain ⟨d, hd⟩ : ∃ d, d = c % 8 := ⟨_, rfl⟩
    rw [<- hd] at hmod hmod2 hcb2 HSU
    clear hat hc hsu hd
    rcases Joins.ownsRow_forms hO with ⟨rfl, hpn⟩ | ⟨g2, cap2, rfl⟩
    ·have HPN := Z0 hpn
     clear hpn hO
     have HN1 := Z0 (Z0f wr [Zaf d] 5)
     go_wp2_with (at_builtin; refine wpList_append_lies _ rfl _ _ 23 rfl (w.1.size + 2) 5 i0 (.int .u8 0) 1 1 Tryz.underlying23 HI.out.1 HI.out.2.1 HI.out.2.2.1 HI.out.2.2.2 rfl (by decide) _ k _ rfl (HO.out.alloc _) ⟨wr.1.size, 0, none⟩ 1 1 [Zaf d] rfl rfl HN1.out (by simp [Zaf, Value.oneCell']) (by decide) (by unfold maxLen; omega) (by omega) (by simp; omega) _ rfl ?_; intro g9 cap9 w9 hown9 hgrow hat9 hlt9)
     go_roundw
     case rel =>
      have hbk : ∀ b, b < w.1.size + 2 -> w9.1[b]? = wr.1[b]? := fun b hb => (hgrow.block b (by rw [Z6]; omega) (fun e => by have := (HO.out.lt b e.symm).1; omega)).trans (ZB _ _ _ (by omega))
      refine ⟨k + 1, by omega, by omega, by go_num, (hB.alloc hB.size _).grown hgrow (by simp; omega) (fun r e => by have := (HO.out.lt r e).1; omega), ?_, (hbk _ (by omega)).trans HM.out, (hbk _ (by omega)).trans HK.out, ?_⟩
      ·have := hgrow.size
       rw [Z6] at this; omega
      ·rw [HSU.out, ZD]
       exact hown9
     case measure => simp [intOf]; omega
    ·clear hO
     have HN1 := Z0 (Z0f wr [Zaf d] 5)
     go_wp2_with (at_builtin; refine wpList_append_lies _ rfl _ _ 23 rfl (w.1.size + 2) 5 i0 (.int .u8 0) 1 1 Tryz.underlying23 HI.out.1 HI.out.2.1 HI.out.2.2.1 HI.out.2.2.2 rfl (by decide) _ k _ rfl (HO.out.alloc _) ⟨wr.1.size, 0, none⟩ 1 1 [Zaf d] rfl rfl HN1.out (by simp [Zaf, Value.oneCell']) (by decide) (by unfold maxLen; omega) (by omega) (by simp; omega) _ rfl ?_; intro g9 cap9 w9 hown9 hgrow hat9 hlt9)
     go_roundw
     case rel =>
      have hbk : ∀ b, b < w.1.size + 2 -> w9.1[b]? = wr.1[b]? := fun b hb => (hgrow.block b (by rw [Z6]; omega) (fun e => by have := (HO.out.lt b e.symm).1; omega)).trans (ZB _ _ _ (by omega))
      refine ⟨k + 1, by omega, by omega, by go_num, (hB.alloc hB.size _).grown hgrow (by simp; omega) (fun r e => by have := (HO.out.lt r e).1; omega), ?_, (hbk _ (by omega)).trans HM.out, (hbk _ (by omega)).trans HK.out, ?_⟩
      ·have := hgrow.size
       rw [Z6] at this; omega
      ·rw [HSU.out, ZD]
       exact hown9
     case measure => simp [intOf]; omega
   ·have hfin : Z2h least k = Z2h least 3 := by rw [show k = 3 by omega]
    rcases HFM.out with ⟨rfl, rfl, hl0⟩ | ⟨sb, so, sp, rfl, hcap⟩
    ·obtain rfl : l = [] := List.length_eq_zero_iff.1 hl0
     obtain rfl : mm = 0 := Nat.le_zero.1 HMM.out.2
     have hmm0 : min (0 : Int) (most : Int) = 0 := by omega
     have hmm1 : min (([] : List UInt16).length : Int) (most : Int) = 0 := hmm0
     clear hmm hl0
     have HMD := Z0 (Z8A HO.out hkl hfin hn0 hn1 (HRC.out.below2 hB) hcl HNL.out)
     have HML := Z0 (Z4v (cap := 0) ((HRS.out.below hB).take HMM.out.2) HMM.out.1 hm HNP.out)
     rw [<- HLS.out] at HMD
     clear hfin hO
     go_upto_region 6 with fail
     go_cut [18, 19] from 41 to 52 (fun x p wx => Zdo w wr nl np ls (Z08 (([] : List UInt16).take most)).ps x p wx)
     case first =>
      go_region_with (first
       | (go_at_call 25; refine (HMD.out _ (by first | exact (Z9 _ wr).drew | exact bL | exact (Z9 _ wr).drew.alloc (Z1 _) _ | exact ((Z9 _ wr).alloc (Z1 _) _).drew | exact bL.alloc bL.size _)).mono ?_; rintro e wM ⟨al, cl, rfl, hbM, bM, hoM⟩; (try (have zM : wM.1[wr.1.size]? = some (.cells #[.int .u8 0, .int .u8 0, .string ⟨#[]⟩, .slice none 0 0] 34 (0, 0)) := (hbM.block _ (by show wr.1.size < (wr.alloc _).1.size; rw [Z6]; omega)).trans (Z01 wr _)); (obtain ⟨zM0, zM1, zM2, zM3, yM0, yM1, yM2, yM3⟩ := Z0n zM); (have gz := Z1 wr.1.size)); (try (have zM : wM.1[wL.1.size]? = some (.cells #[.int .u8 0, .int .u8 0, .string ⟨#[]⟩, .slice none 0 0] 34 (0, 0)) := (hbM.block _ (by show wL.1.size < (wL.alloc _).1.size; rw [Z6]; omega)).trans (Z01 wL _)); (obtain ⟨zM0, zM1, zM2, zM3, yM0, yM1, yM2, yM3⟩ := Z0n zM); (have gz := bL.size)); (try (have zM := (hbM.block _ (Z5.1 zL).1).trans zL); (obtain ⟨zM0, zM1, zM2, zM3, yM0, yM1, yM2, yM3⟩ := Z0n zM)); (try (have hoL' : OwnsP wM wr.1.size (.slice ap np cp) (Z08 (([] : List UInt16).take most)).ps := by first | exact Z09 hoL hbM | exact Z09 (Z09 hoL ((Z9 _ wL).alloc (Z1 _) _)) hbM)))
       | (go_at_call 26; refine (HML.out _ (by first | exact (Z9 _ wr).drew | exact bM | exact (Z9 _ wr).drew.alloc (Z1 _) _ | exact ((Z9 _ wr).alloc (Z1 _) _).drew | exact bM.alloc bM.size _)).mono ?_; rintro e wL ⟨ap, cp, rfl, hbL, bL, hoL⟩; (try (have zL : wL.1[wr.1.size]? = some (.cells #[.int .u8 0, .int .u8 0, .string ⟨#[]⟩, .slice none 0 0] 34 (0, 0)) := (hbL.block _ (by show wr.1.size < (wr.alloc _).1.size; rw [Z6]; omega)).trans (Z01 wr _)); (obtain ⟨zL0, zL1, zL2, zL3, yL0, yL1, yL2, yL3⟩ := Z0n zL); (have gz := Z1 wr.1.size)); (try (have zL : wL.1[wM.1.size]? = some (.cells #[.int .u8 0, .int .u8 0, .string ⟨#[]⟩, .slice none 0 0] 34 (0, 0)) := (hbL.block _ (by show wM.1.size < (wM.alloc _).1.size; rw [Z6]; omega)).trans (Z01 wM _)); (obtain ⟨zL0, zL1, zL2, zL3, yL0, yL1, yL2, yL3⟩ := Z0n zL); (have gz := bM.size)); (try (have zL := (hbL.block _ (Z5.1 zM).1).trans zM); (obtain ⟨zL0, zL1, zL2, zL3, yL0, yL1, yL2, yL3⟩ := Z0n zL)); (try (have hoM' : OwnsLv wL wr.1.size (.slice al nl cl) ls := by first | exact hoM.below hbL | exact (hoM.below ((Z9 _ wM).alloc (Z1 _) _)).below hbL))))
      all_goals
       go_wp2_with fail
       go_meet
       first
        | exact Z1t bL hoM' hoL
        | exact Z1t bM hoM hoL'
        | exact Z1O (x := #[]) bL gz zL hoM' hoL
        | exact Z1O (x := #[]) bM gz zM hoM hoL'
     case rest =>
      obtain ⟨wk, hwk⟩ : ∃ x, x = wc := ⟨_, rfl⟩
      subst hwk
      obtain ⟨al, cl, g, ap, cp, rfl, rfl, hg, hbk, hgk, hlk, hpk⟩ := hcut
      obtain ⟨m0, m1, m2, m3⟩ := Z0D hgk
      have hgl := (Z5.1 hgk).1
      have HGK := Z0 hgk
      have HLK := Z0 hlk
      have HPK := Z0 hpk
      clear HMD HML hgk hlk hpk
      go_upto_region 8 with (go_at_call 27; refine (HPL2.out _ al cl ap cp HLK.out.reads (RdPces.of_owns HPK.out)).mono ?_; rintro e w3 ⟨gz, rfl, hb3, hgz, hz3⟩)
      have h3g := (hb3.block _ hgl).trans HGK.out
      have h3m := (hb3.block _ (by have := hbk.size; omega)).trans ((hbk.block w.1.size (by omega)).trans HM.out)
      have h3k := (hb3.block _ (by have := hbk.size; omega)).trans ((hbk.block (w.1.size + 1) (by omega)).trans HK.out)
      clear m0 m1 m2 m3
      obtain ⟨m0, m1, m2, m3⟩ := Z0D h3g
      obtain ⟨x0, x1, x2, x3, f0, f1, f2, f3⟩ := Z0n h3m
      obtain ⟨r0, r1, r2, r3, d0, d1, d2, d3⟩ := Z0n h3k
      have H3M := Z0 h3m
      have H3K := Z0 h3k
      have HZ3 := Z0 hz3
      have HB3 := Z0 hb3
      have HGZ := Z0 hgz
      clear h3g h3m h3k hz3 hb3 hgz HPL2
      go_big_region
      go_wp2_with fail
      have hend := Z4w (Z5T (B := w.1.size + 2) (t1 := 34) (t2 := 37) (hB.trans ((hbk.trans (HB3.out.mono hbk.size)).mono hB.size)) ⟨Z1 _, by omega⟩ ⟨by omega, by omega⟩ (by omega) (by decide) (by decide) H3M.out H3K.out (OwnsLv.mono (HLK.out.below HB3.out) hz) (OwnsP.mono (Z09 HPK.out HB3.out) hz) HZ3.out (by have := HGZ.out; have := hbk.size; omega) (.int .u8 1) (.int .u8 1) (.string ⟨#[49, 48, 48, 50, 51]⟩) (.slice ap np cp) (.int .i64 (1 + (q1 : Int))) (.int .i64 (20 + (q2 : Int))) (.int .i64 (1 + (q3 : Int))) (.int .i64 (1 + (q4 : Int))))
      unfold Z1Z at hend
      obtain ⟨WF, hWF⟩ : ∃ WF, WF = ((((((((w3.setCell ⟨w.1.size, 0, none⟩ (.int .u8 1)).setCell ⟨w.1.size, 1, none⟩ (.int .u8 1)).setCell ⟨w.1.size, 2, none⟩ (.string ⟨#[49, 48, 48, 50, 51]⟩)).setCell ⟨w.1.size, 3, none⟩ (.slice ap np cp)).setCell ⟨w.1.size + 1, 0, none⟩ (.int .i64 (1 + (q1 : Int)))).setCell ⟨w.1.size + 1, 1, none⟩ (.int .i64 (20 + (q2 : Int)))).setCell ⟨w.1.size + 1, 2, none⟩ (.int .i64 (1 + (q3 : Int)))).setCell ⟨w.1.size + 1, 3, none⟩ (.int .i64 (1 + (q4 : Int)))).drew := ⟨_, rfl⟩
      rw [<- hWF] at hend ⊢
      obtain ⟨e1, e2, e3, e4, e5, e6⟩ := hend
      clear hWF
      refine bodyPost_ret (Z2m rfl _ _ w.1.size (w.1.size + 1) _ _ rfl rfl (run_loadVar_row _ _ _ _ _ _ _ e1 Tryz.underlying34 rfl (by kernel_rfl)) (run_loadVar_row _ _ _ _ _ _ _ e2 Tryz.underlying37 rfl (by kernel_rfl))) rfl ?_
      exact ⟨al, cl, ap, cp, gz, rfl, e3, e4, e5, e6, by have := HGZ.out; have := hbk.size; omega⟩
    ·have hmm2 : mm <= l.length := HMM.out.2
     exact absurd HX.out (by simp)
  ·have hfin : Z2h least k = Z2h least 3 := by
    unfold Z2h
    rw [List.take_of_length_le (by omega), List.take_of_length_le (by omega)]
   rcases HFM.out with ⟨rfl, rfl, hl0⟩ | ⟨sb, so, sp, rfl, hcap⟩
   ·obtain rfl : l = [] := List.length_eq_zero_iff.1 hl0
    obtain rfl : mm = 0 := Nat.le_zero.1 HMM.out.2
    have hmm0 : min (0 : Int) (most : Int) = 0 := by omega
    have hmm1 : min (([] : List UInt16).length : Int) (most : Int) = 0 := hmm0
    clear hmm hl0
    have HMD := Z0 (Z8A HO.out hkl hfin hn0 hn1 (HRC.out.below2 hB) hcl HNL.out)
    have HML := Z0 (Z4v (cap := 0) ((HRS.out.below hB).take HMM.out.2) HMM.out.1 hm HNP.out)
    rw [<- HLS.out] at HMD
    clear hfin hO
    go_upto_region 6 with fail
    go_cut [18, 19] from 41 to 52 (fun x p wx => Zdo w wr nl np ls (Z08 (([] : List UInt16).take most)).ps x p wx)
    case first =>
     go_region_with (first
      | (go_at_call 25; refine (HMD.out _ (by first | exact (Z9 _ wr).drew | exact bL | exact (Z9 _ wr).drew.alloc (Z1 _) _ | exact ((Z9 _ wr).alloc (Z1 _) _).drew | exact bL.alloc bL.size _)).mono ?_; rintro e wM ⟨al, cl, rfl, hbM, bM, hoM⟩; (try (have zM : wM.1[wr.1.size]? = some (.cells #[.int .u8 0, .int .u8 0, .string ⟨#[]⟩, .slice none 0 0] 34 (0, 0)) := (hbM.block _ (by show wr.1.size < (wr.alloc _).1.size; rw [Z6]; omega)).trans (Z01 wr _)); (obtain ⟨zM0, zM1, zM2, zM3, yM0, yM1, yM2, yM3⟩ := Z0n zM); (have gz := Z1 wr.1.size)); (try (have zM : wM.1[wL.1.size]? = some (.cells #[.int .u8 0, .int .u8 0, .string ⟨#[]⟩, .slice none 0 0] 34 (0, 0)) := (hbM.block _ (by show wL.1.size < (wL.alloc _).1.size; rw [Z6]; omega)).trans (Z01 wL _)); (obtain ⟨zM0, zM1, zM2, zM3, yM0, yM1, yM2, yM3⟩ := Z0n zM); (have gz := bL.size)); (try (have zM := (hbM.block _ (Z5.1 zL).1).trans zL); (obtain ⟨zM0, zM1, zM2, zM3, yM0, yM1, yM2, yM3⟩ := Z0n zM)); (try (have hoL' : OwnsP wM wr.1.size (.slice ap np cp) (Z08 (([] : List UInt16).take most)).ps := by first | exact Z09 hoL hbM | exact Z09 (Z09 hoL ((Z9 _ wL).alloc (Z1 _) _)) hbM)))
      | (go_at_call 26; refine (HML.out _ (by first | exact (Z9 _ wr).drew | exact bM | exact (Z9 _ wr).drew.alloc (Z1 _) _ | exact ((Z9 _ wr).alloc (Z1 _) _).drew | exact bM.alloc bM.size _)).mono ?_; rintro e wL ⟨ap, cp, rfl, hbL, bL, hoL⟩; (try (have zL : wL.1[wr.1.size]? = some (.cells #[.int .u8 0, .int .u8 0, .string ⟨#[]⟩, .slice none 0 0] 34 (0, 0)) := (hbL.block _ (by show wr.1.size < (wr.alloc _).1.size; rw [Z6]; omega)).trans (Z01 wr _)); (obtain ⟨zL0, zL1, zL2, zL3, yL0, yL1, yL2, yL3⟩ := Z0n zL); (have gz := Z1 wr.1.size)); (try (have zL : wL.1[wM.1.size]? = some (.cells #[.int .u8 0, .int .u8 0, .string ⟨#[]⟩, .slice none 0 0] 34 (0, 0)) := (hbL.block _ (by show wM.1.size < (wM.alloc _).1.size; rw [Z6]; omega)).trans (Z01 wM _)); (obtain ⟨zL0, zL1, zL2, zL3, yL0, yL1, yL2, yL3⟩ := Z0n zL); (have gz := bM.size)); (try (have zL := (hbL.block _ (Z5.1 zM).1).trans zM); (obtain ⟨zL0, zL1, zL2, zL3, yL0, yL1, yL2, yL3⟩ := Z0n zL)); (try (have hoM' : OwnsLv wL wr.1.size (.slice al nl cl) ls := by first | exact hoM.below hbL | exact (hoM.below ((Z9 _ wM).alloc (Z1 _) _)).below hbL))))
     all_goals
      go_wp2_with fail
      go_meet
      first
       | exact Z1t bL hoM' hoL
       | exact Z1t bM hoM hoL'
       | exact Z1O (x := #[]) bL gz zL hoM' hoL
       | exact Z1O (x := #[]) bM gz zM hoM hoL'
    case rest =>
     obtain ⟨wk, hwk⟩ : ∃ x, x = wc := ⟨_, rfl⟩
     subst hwk
     obtain ⟨al, cl, g, ap, cp, rfl, rfl, hg, hbk, hgk, hlk, hpk⟩ := hcut
     obtain ⟨m0, m1, m2, m3⟩ := Z0D hgk
     have hgl := (Z5.1 hgk).1
     have HGK := Z0 hgk
     have HLK := Z0 hlk
     have HPK := Z0 hpk
     clear HMD HML hgk hlk hpk
     go_upto_region 8 with (go_at_call 27; refine (HPL2.out _ al cl ap cp HLK.out.reads (RdPces.of_owns HPK.out)).mono ?_; rintro e w3 ⟨gz, rfl, hb3, hgz, hz3⟩)
     have h3g := (hb3.block _ hgl).trans HGK.out
     have h3m := (hb3.block _ (by have := hbk.size; omega)).trans ((hbk.block w.1.size (by omega)).trans HM.out)
     have h3k := (hb3.block _ (by have := hbk.size; omega)).trans ((hbk.block (w.1.size + 1) (by omega)).trans HK.out)
     clear m0 m1 m2 m3
     obtain ⟨m0, m1, m2, m3⟩ := Z0D h3g
     obtain ⟨x0, x1, x2, x3, f0, f1, f2, f3⟩ := Z0n h3m
     obtain ⟨r0, r1, r2, r3, d0, d1, d2, d3⟩ := Z0n h3k
     have H3M := Z0 h3m
     have H3K := Z0 h3k
     have HZ3 := Z0 hz3
     have HB3 := Z0 hb3
     have HGZ := Z0 hgz
     clear h3g h3m h3k hz3 hb3 hgz HPL2
     go_big_region
     go_wp2_with fail
     have hend := Z4w (Z5T (B := w.1.size + 2) (t1 := 34) (t2 := 37) (hB.trans ((hbk.trans (HB3.out.mono hbk.size)).mono hB.size)) ⟨Z1 _, by omega⟩ ⟨by omega, by omega⟩ (by omega) (by decide) (by decide) H3M.out H3K.out (OwnsLv.mono (HLK.out.below HB3.out) hz) (OwnsP.mono (Z09 HPK.out HB3.out) hz) HZ3.out (by have := HGZ.out; have := hbk.size; omega) (.int .u8 1) (.int .u8 1) (.string ⟨#[49, 48, 48, 50, 51]⟩) (.slice ap np cp) (.int .i64 (1 + (q1 : Int))) (.int .i64 (20 + (q2 : Int))) (.int .i64 (1 + (q3 : Int))) (.int .i64 (1 + (q4 : Int))))
     unfold Z1Z at hend
     obtain ⟨WF, hWF⟩ : ∃ WF, WF = ((((((((w3.setCell ⟨w.1.size, 0, none⟩ (.int .u8 1)).setCell ⟨w.1.size, 1, none⟩ (.int .u8 1)).setCell ⟨w.1.size, 2, none⟩ (.string ⟨#[49, 48, 48, 50, 51]⟩)).setCell ⟨w.1.size, 3, none⟩ (.slice ap np cp)).setCell ⟨w.1.size + 1, 0, none⟩ (.int .i64 (1 + (q1 : Int)))).setCell ⟨w.1.size + 1, 1, none⟩ (.int .i64 (20 + (q2 : Int)))).setCell ⟨w.1.size + 1, 2, none⟩ (.int .i64 (1 + (q3 : Int)))).setCell ⟨w.1.size + 1, 3, none⟩ (.int .i64 (1 + (q4 : Int)))).drew := ⟨_, rfl⟩
     rw [<- hWF] at hend ⊢
     obtain ⟨e1, e2, e3, e4, e5, e6⟩ := hend
     clear hWF
     refine bodyPost_ret (Z2m rfl _ _ w.1.size (w.1.size + 1) _ _ rfl rfl (run_loadVar_row _ _ _ _ _ _ _ e1 Tryz.underlying34 rfl (by kernel_rfl)) (run_loadVar_row _ _ _ _ _ _ _ e2 Tryz.underlying37 rfl (by kernel_rfl))) rfl ?_
     exact ⟨al, cl, ap, cp, gz, rfl, e3, e4, e5, e6, by have := HGZ.out; have := hbk.size; omega⟩
   ·have hmm2 : mm <= l.length := HMM.out.2
    exact absurd HX.out (by simp)
end Go.Proofs.YtlgajongmkhcnaaGreatDoor
