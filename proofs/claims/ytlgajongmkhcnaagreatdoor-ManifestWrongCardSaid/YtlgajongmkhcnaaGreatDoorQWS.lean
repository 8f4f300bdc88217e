import Derived.Test.YtlgajongmkhcnaaGreatDoorQWQ
import Derived.Test.YtlgajongmkhcnaaGreatDoorQWR
import Derived.BigQuiet
import Derived.BigRegion
import Derived.Deep.DeepCutAuto
import Derived.Deep.CutBlock
set_option maxRecDepth 100000
set_option linter.unusedVariables false
set_option linter.unusedSimpArgs false
set_option maxHeartbeats 32000000
namespace Go.Proofs.YtlgajongmkhcnaaGreatDoor
open Go.RowKit Go.Sort
theorem Tryz.infoU16 : (Tryz.prog.info? 79).map (fun i => (i.zero, i.size, i.bytes)) = some (some (.int .u16 0), 1, 2) := by kernel_rfl
def Z5J (c : UInt16) : Value := .int .u16 (c.toNat : Int)
theorem Z8E (w : World) : (w.alloc (.cells #[.int .u16 9] 79)).ownsRow w.1.size 79 1 (.slice (some ⟨w.1.size, 0, none⟩) 1 1) 1 ([(9 : UInt16)].map Z5J) :=
 ⟨rfl, .inr ⟨w.1.size, 1, #[.int .u16 9], rfl, Z1 _, Z02 w _, Z1 _, by decide, rfl, rfl⟩⟩
theorem ZfR {w : World} {ad : Addr} {n cap : Nat} {bs : List UInt16} (h : RdU16 w (.slice (some ad) n cap) bs) : ∀ j u, (bs.map Z5J)[j]? = some u -> w.cell? (ad.add j) = some u := by
 intro j u hj
 obtain ⟨a, c, hv, hc⟩ := h
 injection hv with h1 h2 h3
 obtain ⟨rR, tA⟩ := Kam.1 hj
 rw [Z7] at rR
 obtain ⟨g, off, ha, hg, tB⟩ := hc (by omega)
 rw [<- h1] at ha
 injection ha with ha
 subst ha
 have ea : (⟨g, off, none⟩ : Addr).add j = ⟨g, off + j, none⟩ := by unfold Addr.add; split <;> simp_all
 rw [ea, tB j rR, <- tA, Kba]
 rfl
theorem Z6f {w : World} {base n : Nat} {v : Value} {bs : List UInt16} (h : w.ownsRow base 79 1 v n (bs.map Z5J)) (hn : bs.length = n) : Z3B w v bs := by
 subst hn
 rcases Joins.ownsRow_forms h with ⟨rfl, hp⟩ | ⟨g, cap, rfl⟩
 ·obtain rfl : bs = [] := Kag.1 hp
  exact ⟨⟨none, 0, rfl, fun h => absurd h (by simp)⟩, .inl rfl⟩
 ·refine ⟨⟨_, cap, rfl, fun _ => ⟨g, 0, rfl, (h.lt g rfl).2, fun i hi => by rw [Ka0, h.cellAt i (by omega), Kal, Z3 hi]; rfl⟩⟩, .inr ⟨g, 0, none, cap, rfl, ?_⟩⟩
  obtain ⟨_, ⟨e, _⟩ | ⟨g', cap', cur, e, _, _, uL, _⟩⟩ := h
  ·cases e
  ·injection e with e1 e2 e3
   omega
theorem ZhP {n : Int} (h0 : 0 <= n) (h1 : n < 4294967296) : 0 <= bits .or .u32 n 1 /\ bits .or .u32 n 1 < 4294967296 /\ (bitsOf (bits .or .u32 n 1)).f5 = true := by
 obtain ⟨a, rfl⟩ : ∃ a : Nat, n = (a : Int) := ⟨n.toNat, by omega⟩
 have ha : a < 4294967296 := by omega
 have ho : a ||| 1 < 2 ^ 32 := Nat.or_lt_two_pow (by omega) (by decide)
 have h1' : (BitVec.ofInt 32 (a : Int)).toNat = a := by
  rw [BitVec.ofInt_natCast, BitVec.toNat_ofNat]; exact Kcv (by omega)
 have h2' : (BitVec.ofInt 32 (1 : Int)).toNat = 1 := by decide
 have hw : ∀ n : Int, IntKind.u32.wrap n = n % 4294967296 := fun n => by simp [IntKind.wrap, IntKind.bits, IntKind.signed]
 have tC : bits .or .u32 (a : Int) 1 = ((a ||| 1 : Nat) : Int) := by
  show IntKind.u32.wrap ((BitVec.ofInt 32 (a : Int) ||| BitVec.ofInt 32 1).toNat : Int) = _
  rw [BitVec.toNat_or, h1', h2', hw]
  omega
 rw [tC]
 refine ⟨by omega, by omega, ?_⟩
 show bt ((a ||| 1 : Nat) : Int) 1 = true
 unfold bt
 have := Z28 (a ||| 1) 1 1 (by omega) rfl (by decide)
 have e : ((1 : Nat) : Int) = 1 := rfl
 rw [e] at this
 rw [this]
 have h3 : (a ||| 1) % 2 ^ 1 = 1 := by
  show (a ||| 1) % 2 = 1
  rw [Nat.or_mod_two_eq_one]
  exact .inr rfl
 rw [h3]
 decide
theorem ZaZ {B : Bits} (low : List UInt8) (h : B.f5 = true) : ∃ l0 r, Z1c B low [] = l0 :: r /\ l0.pre = 5 /\ 1 <= r.length := by
 unfold Z1c mk3 mk2 mk1 Zap Zj8
 rw [h]
 cases B.f3 <;> cases B.f1 <;> exact ⟨_, _, rfl, rfl, by simp⟩
def TA (w : World) (ls : List Lev) (ps : List Pce) (n : Nat) (zs : List Int) (k : Pck) (x m z q : Value) (wx : World) : Prop :=
 ∃ g cl a cp gz X B, x = .slice (some ⟨g, 0, none⟩) ls.length cl /\ m = .pointer (some ⟨X, 0, none⟩) /\ z = .slice (some ⟨gz, 0, none⟩) n n /\ q = .pointer (some ⟨X + 1, 0, none⟩) /\
  wx.1[X]? = some (.cells #[.int .u8 1, .int .u8 1, .string ⟨#[49, 48, 48, 50, 51]⟩, .slice (some ⟨a, 0, none⟩) n cp] 34 (0, 0)) /\
  wx.1[X + 1]? = some (.cells #[.int .i64 k.pieces, .int .i64 k.grams, .int .i64 k.bundles, .int .i64 k.trays] 37 (0, 0)) /\
  OwnsLv wx B (.slice (some ⟨g, 0, none⟩) ls.length cl) ls /\ OwnsP wx B (.slice (some ⟨a, 0, none⟩) n cp) ps /\ IntsAt wx gz zs /\ (w.1.size <= B /\ B <= gz /\ gz < X /\ a < X /\ B <= X) /\ Below w.1.size w wx
theorem Z8w {w : World} {g : Nat} {cs : Array Value} {t : TypeId} {fr : Nat × Nat} (h : w.1[g]? = some (.cells cs t fr)) (j : Nat) (u : Value) : (w.setCell ⟨g, j, none⟩ u).1[g]? = some (.cells (cs.setIfInBounds j u) t fr) := by
 simp [World.setCell, Kap, h]
theorem Z2N {w : World} {B X : Nat} {v : Value} {ps : List Pce} {cs : Array Value} {t : TypeId} {fr : Nat × Nat} (hp : OwnsP w B v ps) (hX : w.1[X]? = some (.cells cs t fr)) (ht : t ≠ 65) (j : Nat) (u : Value) : OwnsP (w.setCell ⟨X, j, none⟩ u) B v ps :=
 Z0w hp (Z08 w ⟨X, j, none⟩ u) (fun q e cur fr e2 => by
  injection e with e
  rw [<- e, hX] at e2
  injection e2 with e2
  injection e2 with e3 e4 e5
  exact ht e4)
theorem ZcY {w : World} {base : Nat} {v : Value} {ls : List Lev} (h : OwnsLv w base v ls) (h0 : 0 < ls.length) : ∃ g cap, v = .slice (some ⟨g, 0, none⟩) ls.length cap /\ base <= g /\ g < w.1.size := by
 obtain ⟨L, rfl, hLr, ho⟩ := h
 rw [Z7] at h0 ⊢
 rcases Joins.ownsRow_forms ho with ⟨_, hp⟩ | ⟨g, cap, hv⟩
 ·omega
 ·subst hv
  exact ⟨g, cap, rfl, ho.lt g rfl⟩
theorem Zhc {w W wM w' : World} {ls : List Lev} {ps : List Pce} {n : Nat} {zs : List Int} {k : Pck} {al ap : Option Addr} {cl cp gz : Nat} (hB : Below w.1.size w wM) (hW : w.1.size <= W.1.size) (hl : OwnsLv wM W.1.size (.slice al ls.length cl) ls) (hp : OwnsP wM W.1.size (.slice ap n cp) ps) (hz : IntsAt wM gz zs) (tD : W.1.size <= gz) (h1 : 0 < ls.length) (h2 : 0 < n) (qP : ps.length = n)
 (hw : w' = (wM.alloc (.cells #[.int .u8 1, .int .u8 1, .string ⟨#[49, 48, 48, 50, 51]⟩, .slice ap n cp] 34)).alloc (.cells #[.int .i64 k.pieces, .int .i64 k.grams, .int .i64 k.bundles, .int .i64 k.trays] 37)) :
 TA w ls ps n zs k (.slice al ls.length cl) (.pointer (some ⟨wM.1.size, 0, none⟩)) (.slice (some ⟨gz, 0, none⟩) n n) (.pointer (some ⟨wM.1.size + 1, 0, none⟩)) w' := by
 obtain ⟨g, c', hv, _, _⟩ := ZcY hl h1
 injection hv with qZ _ rA
 subst qZ
 subst rA
 obtain ⟨a, c2, hv, uM, tE⟩ := Zc3 hp qP h2
 injection hv with qZ _ rA
 subst qZ
 subst rA
 obtain ⟨k1, k2, k3, k4⟩ := Z8n hw
 have rS : gz < wM.1.size := (Z5.1 hz).1
 exact ⟨g, cl, a, cp, gz, wM.1.size, W.1.size, rfl, rfl, rfl, rfl, k1, k2, hl.below k4, Z09 hp k4, (k4.block gz rS).trans hz, ⟨hW, tD, rS, tE, by omega⟩, hB.trans (k4.mono hB.size)⟩
theorem Z4H {w : World} {B X : Nat} {v : Value} {ls : List Lev} {cs : Array Value} {t : TypeId} {fr : Nat × Nat} (hl : OwnsLv w B v ls) (hX : w.1[X]? = some (.cells cs t fr)) (h1 : t ≠ 150) (h2 : t ≠ 63) (j : Nat) (u : Value) : OwnsLv (w.setCell ⟨X, j, none⟩ u) B v ls :=
 hl.grown (Z08 w ⟨X, j, none⟩ u) (Z0C hX h1) (Z0C hX h2)
theorem ZiE {ps : List Pce} (h : 0 < ps.length) (g : Int) : ps.set 0 { ps[0] with grams := g } = Z3Z g ps := by
 cases ps with
 | nil => simp at h
 | cons p r => rfl
theorem Zjh {ps : List Pce} (h : 0 < ps.length) (c : ByteArray) : ps.set 0 { ps[0] with code := c } = setC c ps := by
 cases ps with
 | nil => simp at h
 | cons p r => rfl
def Zht (d : Nat) : Int := if d = 0 then 2 else if d = 1 then 3 else if d = 2 then 6 else if d = 3 then 2 else if d = 4 then 6 else 3
def Zhs (d : Nat) : Int := if d = 0 then 2 else if d = 1 then 6 else if d = 2 then 6 else if d = 3 then 2 else if d = 4 then 6 else 3
def WrS (w : World) (x zv : Value) (T X : Nat) (m z : Value) (d : Nat) (want chk : Value) (wz : World) : Prop :=
 ∃ (ar : Option Addr) (nr cr : Nat) (az : Option Addr) (nz cz : Nat) (c gk : Int) (ap : Option Addr) (np cp : Nat), want = .int .i64 (Zht d) /\ chk = .int .i64 (Zhs d) /\ Below w.1.size w wz /\
  wz.1[T]? = some (.cells #[.slice ar nr cr, .slice az nz cz] 29 (0, 0)) /\ wz.1[X]? = some (.cells #[.int .u8 c, .int .u8 1, .string ⟨#[49, 48, 48, 50, 51]⟩, .slice ap np cp] 34 (0, 0)) /\ wz.1[X + 1]? = some (.cells #[.int .i64 1, .int .i64 gk, .int .i64 1, .int .i64 1] 37 (0, 0)) /\
  ∀ W, Below wz.1.size wz W -> Calls Tryz.prog 11 #[.agg #[.slice ar nr cr, .slice az nz cz], x, .agg #[.int .u8 c, .int .u8 1, .string ⟨#[49, 48, 48, 50, 51]⟩, .slice ap np cp], z, .agg #[.int .i64 1, .int .i64 gk, .int .i64 1, .int .i64 1]] W (fun e w' => e = .returned (.tuple #[.agg #[.slice none 0 0, .int .i64 0, .int .i64 0, .int .i64 0, .int .i64 0, .int .i64 0, .int .i64 0, .int .i64 0, .int .i64 0, .int .i64 0, .int .i64 0, .int .i64 0], .int .i64 (Zht d)]) /\ Below W.1.size W w') /\
   Calls Tryz.prog 14 #[.agg #[.slice ar nr cr, .slice az nz cz], x, .agg #[.int .u8 c, .int .u8 1, .string ⟨#[49, 48, 48, 50, 51]⟩, .slice ap np cp], z, .agg #[.int .i64 1, .int .i64 gk, .int .i64 1, .int .i64 1], .agg #[.slice none 0 0, .slice none 0 0, .slice none 0 0], .agg #[.slice none 0 0, .int .i64 0, .int .i64 0, .int .i64 0, .int .i64 0, .int .i64 0, .int .i64 0, .int .i64 0, .int .i64 0, .int .i64 0, .int .i64 0, .int .i64 0]] W (fun e w' => e = .returned (.tuple #[.bool false, .int .i64 (Zhs d)]) /\ Below W.1.size W w')
theorem Z99 (n : Nat) (s : Int) (c : UInt8) (vs : Value) (l : List UInt16) (w : World) (ht : TabW w) (hn : n < 4294967296) (tF : 0 <= s) (pX : s < 4294967296) (qQ : Z3B w vs l) (uN : l.length <= 70368744175616) :
 Calls Tryz.prog 6 #[.int .u32 (n : Nat), .int .u32 s, vs, .int .u8 (c.toNat : Int)] w fun e w' => e = .returned (.bool true) /\ Below w.1.size w w' := by
 have rT := Z0 (fun W hW => Zbv W hW)
 have rU := Z0 ht
 have pY : ∀ W : World, RdBytes W (.slice none 0 0) [] := fun W => ⟨none, 0, rfl, fun h => absurd h (by simp)⟩
 have HT := Z0 (Zjg (ps := []) (w := w) hn (pY w) (ZE _))
 obtain ⟨o0, o1, o2⟩ := ZhP tF pX
 obtain ⟨s', hs'⟩ : ∃ s', bits .or .u32 s 1 = s' := ⟨_, rfl⟩
 rw [hs'] at o0 o1 o2
 obtain ⟨l', hl'⟩ : ∃ l', l' = (9 :: l).take 40 := ⟨_, rfl⟩
 have uO : 1 <= l'.length /\ l'.length <= 40 := by rw [hl', Kax, Ka9]; omega
 have hP : Mk27 n [] (Z1c (bitsOf s') (Z25 [] 3) []) l' := ⟨by rw [hl']; exact ZhV s' [] [] (9 :: l) 40 (by decide), Zb0 _ _ _⟩
 have pZ : ∀ W v, Below w.1.size w W -> Z3B W v (9 :: l) -> Zis #[.int .u32 s', .slice none 0 0, .slice none 0 0, v, .int .i64 40, .int .u32 0] (Z1c (bitsOf s') (Z25 [] 3) []) l' (Z1o (Z1c (bitsOf s') (Z25 [] 3) []) (Z05 l')) (Z8C 0) W := fun W v hW hv => by
  rw [hl']
  exact ZiP (b := 0) (most := 40) o0 o1 (by decide) (pY W) (pY W) hv (ZE _) (ZE _) (by rw [Ka9]; unfold maxLen; omega) (by decide)
 obtain ⟨l0, r, qR, rV, tG⟩ := ZaZ (Z25 [] 3) o2
 obtain ⟨ls, rW⟩ : ∃ ls, ls = Z1c (bitsOf s') (Z25 [] 3) [] := ⟨_, rfl⟩
 rw [<- rW] at pZ hP qR
 have uP : 2 <= ls.length := by rw [qR]; simp; omega
 have h5 : ∀ l ∈ ls.take 1, l.pre = 5 := fun x hx => by
  rw [qR] at hx
  simp at hx
  rw [hx]; exact rV
 have qP : (Z05 l').ps.length = l'.length := Z32 _ _
 have tH : c.toNat % 6 < 6 := Kcj _ (by decide)
 have pB : (c.toNat : Int).tmod 6 = ((c.toNat % 6 : Nat) : Int) := by rw [Kbn (Kce _)]; rfl
 obtain ⟨d, hd⟩ : ∃ d, d = c.toNat % 6 := ⟨_, rfl⟩
 rw [<- hd] at pB tH
 obtain ⟨as_, cs_, rfl, _⟩ := qQ.1
 have rX : (as_ = none /\ cs_ = 0 /\ l.length = 0) \/ (∃ sb so sp, as_ = some ⟨sb, so, sp⟩ /\ l.length <= cs_) := by
  rcases qQ.2 with h | ⟨b, off, spot, cap, h, hc⟩
  ·injection h with h1 h2 h3
   exact .inl ⟨h1, h3, h2⟩
  ·injection h with h1 h2 h3
   exact .inr ⟨b, off, spot, h1, by omega⟩
 have tI := Z0 rX
 have tJ := Z0 qQ
 obtain ⟨i0, hi⟩ := info_parts Tryz.infoU16
 have HI := Z0 hi
 have HP := Z0 hP
 have tK := Z0 h5
 have qS := Z0 qP
 obtain ⟨zs, rB⟩ : ∃ z, z = Z1o ls (Z05 l') := ⟨_, rfl⟩
 rw [<- rB] at pZ
 unfold Zis at pZ
 have rY := Z0 pZ
 have pQ := Z0 rB
 have HN := Z0 pY
 clear hd hi qQ rX rW hl' qR rV tG h5 pZ o0 o1 o2 hP qP rB pY ht
 go_enter Tryz.func6, Tryz.ntmps6
 go_wp2_with fail
 refine (rT.out _ rU.out).mono ?_
 rintro e w1 ⟨rfl, qT⟩
 go_wp2_with fail
 refine (HT.out _ qT).mono ?_
 rintro e w2 ⟨ar, cr, az, cz, rfl, rZ, sA⟩
 have qU := Z01 qT qT.size rZ
 clear qT rZ
 go_upto_region 4 with fail
 obtain ⟨W2, qA⟩ : ∃ W2, W2 = w2.alloc (.cells #[.slice ar (Z3P n []).rates.length cr, .slice az (Z3P n []).zones.length cz] 29) := ⟨_, rfl⟩
 rw [<- qA]
 have b2 : Below w2.1.size w2 W2 := by rw [qA]; exact (Z9 _ w2).alloc (Z1 _) _
 have t0 : W2.1[w2.1.size]? = some (.cells #[.slice ar (Z3P n []).rates.length cr, .slice az (Z3P n []).zones.length cz] 29 (0, 0)) := by rw [qA]; exact Z02 w2 _
 have s2 : W2.1.size = w2.1.size + 1 := by rw [qA]; simp
 have pJ : Hid (Below w.1.size w W2) := Z01 qU qU.size b2
 have pU := Z0 sA
 have tL := Z0 qU
 have sB := Z0 b2
 have sC := Z0 t0
 obtain ⟨T, rC⟩ : ∃ T, T = w2.1.size := ⟨_, rfl⟩
 rw [<- rC] at sC s2 ⊢
 have tM := Z0 rC
 have sD := Z0 s2
 clear qA b2 t0 qU sA rC s2 rT HT rU
 go_cut [10, 11, 12, 13] from 24 to 34 (fun x m z q wx => TA W2 ls (Z05 l').ps l'.length zs (Z8C 0) x m z q wx)
 case first =>
  rcases tI.out with ⟨rfl, rfl, tN⟩ | ⟨sb, so, sp, rfl, uQ⟩
  ·obtain rfl : l = [] := Kag.1 tN
   go_wp2_with (go_at_call 10; (have rD : Z3B (W2.alloc (.cells #[.int .u16 9] 79)) (.slice (some ⟨W2.1.size, 0, none⟩) 1 1) [9] := Z6f (Z8E W2) rfl); (have BX : Below w.1.size w (W2.alloc (.cells #[.int .u16 9] 79)) := pJ.out.alloc pJ.out.size _); refine (rY.out _ _ BX rD _ (Z9 _ _)).mono ?_; rintro e wM ⟨al, cl, ap, cp, gz, rfl, rE, rF, rG, rH, rI⟩; (have BY : Below W2.1.size W2 (W2.alloc (.cells #[.int .u16 9] 79)) := (Z9 _ W2).alloc (Z1 _) _); (have rJ : Below W2.1.size W2 wM := BY.trans (rE.mono BY.size)); (have rK := BY.size))
   go_meet
   exact Zhc rJ rK rF rG rH rI (by omega) (by omega) qS.out rfl
  ·have tO : Hid (∀ W, Below w.1.size w W -> ∀ j u, (l.map Z5J)[j]? = some u -> W.cell? ((⟨sb, so, sp⟩ : Addr).add j) = some u) := fun W hW => ZfR (n := l.length) (cap := cs_) (RdU16.below tJ.out.1 hW)
   have tP : Hid ((l.map Z5J).length = l.length * 1) := by
    show (l.map Z5J).length = l.length * 1
    rw [Z7, Kdf]
   have tQ : Hid (∀ u ∈ l.map Z5J, u.oneCell' = true) := fun u hu => by
    obtain ⟨z, _, rfl⟩ := Kae.1 hu
    rfl
   go_wp2_with (first | (at_builtin; refine wpList_append_own _ rfl _ _ 24 rfl W2.1.size 79 i0 (.int .u16 0) 1 2 Tryz.underlying24 HI.out.1 HI.out.2.1 HI.out.2.2.1 HI.out.2.2.2 rfl (by decide) _ _ _ rfl (Z8E W2) ⟨sb, so, sp⟩ l.length cs_ (l.map Z5J) rfl tP.out (tO.out _ (pJ.out.alloc pJ.out.size _)) tQ.out (by unfold maxLen; omega) (by omega) (by simp) ?_; intro v5 w5 tR tS _; (have BY : Below W2.1.size W2 w5 := ((Z9 _ W2).alloc (Z1 _) _).grown tS (by simp) (fun r e => ((Z8E W2).lt r e).1)); (have BX : Below w.1.size w w5 := Z01 pJ.out pJ.out.size BY); (have rD : Z3B w5 v5 (9 :: l) := Z6f (by rw [Kan]; exact tR) (by simp; omega))) | (go_at_call 10; refine (rY.out _ _ BX rD _ (Z9 _ _)).mono ?_; rintro e wM ⟨al, cl, ap, cp, gz, rfl, rE, rF, rG, rH, rI⟩; (have rJ : Below W2.1.size W2 wM := BY.trans (rE.mono BY.size)); (have rK := BY.size)))
   go_meet
   exact Zhc rJ rK rF rG rH rI (by omega) (by omega) qS.out rfl
 case rest =>
  obtain ⟨wx, tT⟩ : ∃ x, x = wc := ⟨_, rfl⟩
  subst tT
  obtain ⟨g, cl, a, cp, gz, X, B, rfl, rfl, rfl, rfl, hX, sE, sF, rL, sG, ⟨uR, uS, uT, uU, uV⟩, hB⟩ := hcut
  have hQ : wx.1[X + 1]? = some (.cells #[.int .i64 1, .int .i64 20, .int .i64 1, .int .i64 1] 37 (0, 0)) := sE
  have uW : X + 1 < wx.1.size := (Z5.1 hQ).1
  have uX : B <= a := ((rL : wx.ownsRow B 65 5 _ _ _).lt a rfl).1
  have sH : zs.length = l'.length := by rw [pQ.out, Z1D]; exact qS.out
  have hT := (hB.block T (by have := sD.out; omega)).trans sC.out
  have pD := Z0 hT
  have pI := Z0 hX
  have pE := Z0 hQ
  have pR := Z0 sF
  have pG := Z0 rL
  have pK := Z0 sG
  have rM := Z0 hB
  have pS := Z0 sH
  clear hX sE hQ sF rL sG hB sH hT
  go_upto_block 0 with fail
  go_cut [14, 15] from 36 to 64 (fun want chk wz => WrS w (.slice (some ⟨g, 0, none⟩) ls.length cl) .nilIface T X (.pointer (some ⟨X, 0, none⟩)) (.slice (some ⟨gz, 0, none⟩) l'.length l'.length) d want chk wz)
  case first =>
   have tU : d = 0 \/ d = 1 \/ d = 2 \/ d = 3 \/ d = 4 \/ d = 5 := by omega
   have pC : 0 < (Z05 l').ps.length := by rw [qS.out]; omega
   obtain ⟨c2', f2, _, _⟩ := OwnsP.at pG.out 0 2 pC (by decide)
   obtain ⟨c3', f3, _, _⟩ := OwnsP.at pG.out 0 3 pC (by decide)
   have c2 : wx.cell? ⟨a, 2, none⟩ = some (.string ((Z05 l').ps[0]'pC).code) := c2'
   have c3 : wx.cell? ⟨a, 3, none⟩ = some (.int .i64 ((Z05 l').ps[0]'pC).grams) := c3'
   rw [Kc1, Ka0] at f2 f3
   obtain ⟨cur, sI⟩ : ∃ cur, wx.1[a]? = some (.cells cur 65 (0, 0)) := by
    obtain ⟨_, hv | ⟨g', cap', cur', hv', _, hh, _⟩⟩ := (pG.out : wx.ownsRow B 65 5 _ _ _)
    ·cases hv.1
    ·injection hv' with e1 e2 e3
     injection e1 with e1
     injection e1 with e1
     rw [<- e1] at hh
     exact ⟨cur', hh⟩
   have pL := Z0 sI
   obtain ⟨m0, m1, m2, m3, y0, y1, y2, y3⟩ := Z0l pI.out
   obtain ⟨k0, k1, k2, k3, j0, j1, j2, j3⟩ := Z0l pE.out
   have q0 := Kaa _ _ 0 _ _ _ pD.out
   have q1 := Kaa _ _ 1 _ _ _ pD.out
   have qf : wx.frozen? ⟨T, 1, none⟩ = false := Z00 pD.out
   have rN : w2.1.size = T := tM.out.symm
   have tV := sD.out
   have qV := Z01 sB.out sB.out.size rM.out
   rw [rN] at qV
   have sJ : Below w.1.size w wx := Z01 pJ.out pJ.out.size rM.out
   have uY : w.1.size <= T := by have := tL.out.size; omega
   have tW : T ≠ X := by omega
   have tX : T ≠ X + 1 := by omega
   have tY : T ≠ a := by omega
   have tZ : a ≠ X := by omega
   have uA : a ≠ X + 1 := by omega
   have uB : gz ≠ X := by omega
   have uC : gz ≠ X + 1 := by omega
   have sK : gz ≠ T := by omega
   have sL : gz ≠ a := fun e => Z0q pG.out (T := 3) (by decide) a rfl _ _ (by subst e; exact pK.out)
   have uZ : T <= a := by omega
   have vA : T <= X := by omega
   have vB := qV.size
   have pV := Z0 qV
   have pW := Z0 sJ
   have pA := Z0 (And.intro tW (And.intro tX (And.intro tY (And.intro tZ (And.intro uA (And.intro uB (And.intro uC (And.intro sK sL))))))))
   have pF := Z0 rN
   have sM : Z5R ⟨1, 20, 1, 1⟩ = true := Zgo 0
   have sN : Z5R ⟨1, 50000, 1, 1⟩ = true := by unfold Z5R; decide
   have sO : ∀ p ∈ (Z05 l').ps, p.grams <= 20 := fun p hp => (Z6A l' p hp).2
   have rO := Z0 sM
   have uD := Z0 sN
   have sP := Z0 sO
   clear c2' c3' sI qV sJ rN tV sM sN sO sK sL
   rcases tU with rfl | rfl | rfl | rfl | rfl | rfl
   ·have qB : (c.toNat : Int).tmod 6 = 0 := pB
    clear pB
    have lv1 := Z4H pR.out pE.out (by decide) (by decide) 1 (.int .i64 0)
    have op1 := Z2N pG.out pE.out (by decide) 1 (.int .i64 0)
    have iz1 := IntsAt.setOther (a := ⟨X + 1, 1, none⟩) pK.out pA.out.2.2.2.2.2.2.1 (.int .i64 0)
    have bb1 := pV.out.setCell (p := ⟨X + 1, 1, none⟩) (by show T <= X + 1; omega) (.int .i64 0)
    have bw1 := pW.out.setCell (p := ⟨X + 1, 1, none⟩) (by show w.1.size <= X + 1; omega) (.int .i64 0)
    have t1 := (ZA wx ⟨X + 1, 1, none⟩ (.int .i64 0) (T) pA.out.2.1).trans pD.out
    have x1 := (ZA wx ⟨X + 1, 1, none⟩ (.int .i64 0) (X) (show X ≠ X + 1 by omega)).trans pI.out
    have k1 := Z8w pE.out 1 (.int .i64 0)
    have a1 := (ZA wx ⟨X + 1, 1, none⟩ (.int .i64 0) (a) pA.out.2.2.2.2.1).trans pL.out
    have qC := Z0 lv1
    have qD := Z0 op1
    have pM := Z0 iz1
    have pN := Z0 bb1
    have qE := Z0 bw1
    have qF := Z0 t1
    have qG := Z0 x1
    have qH := Z0 k1
    clear lv1 op1 iz1 bb1 bw1 t1 x1 k1 a1
    go_wp2_with fail
    go_meet
    refine ⟨ar, _, cr, az, _, cz, 1, 0, some ⟨a, 0, none⟩, l'.length, cp, rfl, rfl, qE.out, qF.out, qG.out, qH.out, fun W hW => ?_⟩
    have pH : T <= _ := pF.out ▸ pN.out.size
    have h1 := (pU.out.below (by rw [pF.out]; exact Z01 pN.out pH hW))
    have h2 := qC.out.reads.below hW
    have h3 := (RdPces.of_owns qD.out).below hW
    have h4 := Z5e ((hW.block gz pM.out.lt).trans pM.out : IntsAt W gz zs) pS.out
    rw [pQ.out] at h4
    exact wr0 (k := ⟨1, 20, 1, 1⟩) HP.out h1 h2 h3 h4
   ·have qB : (c.toNat : Int).tmod 6 = 1 := pB
    clear pB
    have lv1 := Z4H pR.out pL.out (by decide) (by decide) 3 (.int .i64 21)
    have op1 : OwnsP (wx.setCell ⟨a, 3, none⟩ (.int .i64 21)) B (.slice (some ⟨a, 0, none⟩) l'.length cp) (Z3Z 21 (Z05 l').ps) := by
     have := OwnsP.put pG.out 0 3 pC (by decide) { (Z05 l').ps[0]'pC with grams := 21 } (.int .i64 21) (by rfl)
     rw [ZiE pC 21] at this
     exact this
    have iz1 := IntsAt.setOther (a := ⟨a, 3, none⟩) pK.out pA.out.2.2.2.2.2.2.2.2 (.int .i64 21)
    have bb1 := pV.out.setCell (p := ⟨a, 3, none⟩) (by show T <= a; omega) (.int .i64 21)
    have bw1 := pW.out.setCell (p := ⟨a, 3, none⟩) (by show w.1.size <= a; omega) (.int .i64 21)
    have t1 := (ZA wx ⟨a, 3, none⟩ (.int .i64 21) (T) pA.out.2.2.1).trans pD.out
    have x1 := (ZA wx ⟨a, 3, none⟩ (.int .i64 21) (X) (Ne.symm pA.out.2.2.2.1)).trans pI.out
    have k1 := (ZA wx ⟨a, 3, none⟩ (.int .i64 21) (X + 1) (Ne.symm pA.out.2.2.2.2.1)).trans pE.out
    have a1 := Z8w pL.out 3 (.int .i64 21)
    have lv2 := Z4H lv1 x1 (by decide) (by decide) 0 (.int .u8 9)
    have op2 := Z2N op1 x1 (by decide) 0 (.int .u8 9)
    have iz2 := IntsAt.setOther (a := ⟨X, 0, none⟩) iz1 pA.out.2.2.2.2.2.1 (.int .u8 9)
    have bb2 := bb1.setCell (p := ⟨X, 0, none⟩) (by show T <= X; omega) (.int .u8 9)
    have bw2 := bw1.setCell (p := ⟨X, 0, none⟩) (by show w.1.size <= X; omega) (.int .u8 9)
    have t2 := (ZA (wx.setCell ⟨a, 3, none⟩ (.int .i64 21)) ⟨X, 0, none⟩ (.int .u8 9) (T) pA.out.1).trans t1
    have x2 := Z8w x1 0 (.int .u8 9)
    have k2 := (ZA (wx.setCell ⟨a, 3, none⟩ (.int .i64 21)) ⟨X, 0, none⟩ (.int .u8 9) (X + 1) (show X + 1 ≠ X by omega)).trans k1
    have a2 := (ZA (wx.setCell ⟨a, 3, none⟩ (.int .i64 21)) ⟨X, 0, none⟩ (.int .u8 9) (a) pA.out.2.2.2.1).trans a1
    have qI := Z0 lv2
    have qJ := Z0 op2
    have pO := Z0 iz2
    have pP := Z0 bb2
    have qK := Z0 bw2
    have qL := Z0 t2
    have qM := Z0 x2
    have qN := Z0 k2
    clear lv1 op1 iz1 bb1 bw1 t1 x1 k1 a1 lv2 op2 iz2 bb2 bw2 t2 x2 k2 a2
    go_wp2_with fail
    go_meet
    refine ⟨ar, _, cr, az, _, cz, 9, 20, some ⟨a, 0, none⟩, l'.length, cp, rfl, rfl, qK.out, qL.out, qM.out, qN.out, fun W hW => ?_⟩
    have pH : T <= _ := pF.out ▸ pP.out.size
    have h1 := (pU.out.below (by rw [pF.out]; exact Z01 pP.out pH hW))
    have h2 := qI.out.reads.below hW
    have h3 := (RdPces.of_owns qJ.out).below hW
    have h4 := Z5e ((hW.block gz pO.out.lt).trans pO.out : IntsAt W gz zs) pS.out
    rw [pQ.out] at h4
    exact wr1 (k := ⟨1, 20, 1, 1⟩) HP.out rO.out rfl (by omega) h1 h2 h3 h4
   ·have qB : (c.toNat : Int).tmod 6 = 2 := pB
    clear pB
    have lv1 := Z4H pR.out pI.out (by decide) (by decide) 0 (.int .u8 9)
    have op1 := Z2N pG.out pI.out (by decide) 0 (.int .u8 9)
    have iz1 := IntsAt.setOther (a := ⟨X, 0, none⟩) pK.out pA.out.2.2.2.2.2.1 (.int .u8 9)
    have bb1 := pV.out.setCell (p := ⟨X, 0, none⟩) (by show T <= X; omega) (.int .u8 9)
    have bw1 := pW.out.setCell (p := ⟨X, 0, none⟩) (by show w.1.size <= X; omega) (.int .u8 9)
    have t1 := (ZA wx ⟨X, 0, none⟩ (.int .u8 9) (T) pA.out.1).trans pD.out
    have x1 := Z8w pI.out 0 (.int .u8 9)
    have k1 := (ZA wx ⟨X, 0, none⟩ (.int .u8 9) (X + 1) (show X + 1 ≠ X by omega)).trans pE.out
    have a1 := (ZA wx ⟨X, 0, none⟩ (.int .u8 9) (a) pA.out.2.2.2.1).trans pL.out
    have qC := Z0 lv1
    have qD := Z0 op1
    have pM := Z0 iz1
    have pN := Z0 bb1
    have qE := Z0 bw1
    have qF := Z0 t1
    have qG := Z0 x1
    have qH := Z0 k1
    clear lv1 op1 iz1 bb1 bw1 t1 x1 k1 a1
    go_wp2_with fail
    go_meet
    refine ⟨ar, _, cr, az, _, cz, 9, 20, some ⟨a, 0, none⟩, l'.length, cp, rfl, rfl, qE.out, qF.out, qG.out, qH.out, fun W hW => ?_⟩
    have pH : T <= _ := pF.out ▸ pN.out.size
    have h1 := (pU.out.below (by rw [pF.out]; exact Z01 pN.out pH hW))
    have h2 := qC.out.reads.below hW
    have h3 := (RdPces.of_owns qD.out).below hW
    have h4 := Z5e ((hW.block gz pM.out.lt).trans pM.out : IntsAt W gz zs) pS.out
    rw [pQ.out] at h4
    exact wr2 (k := ⟨1, 20, 1, 1⟩) HP.out rO.out sP.out (by omega) h1 h2 h3 h4
   ·have qB : (c.toNat : Int).tmod 6 = 3 := pB
    clear pB
    have lv1 := Z4H pR.out pD.out (by decide) (by decide) 1 (.slice none 0 0)
    have op1 := Z2N pG.out pD.out (by decide) 1 (.slice none 0 0)
    have iz1 := IntsAt.setOther (a := ⟨T, 1, none⟩) pK.out pA.out.2.2.2.2.2.2.2.1 (.slice none 0 0)
    have bb1 := pV.out.setCell (p := ⟨T, 1, none⟩) (by show T <= T; omega) (.slice none 0 0)
    have bw1 := pW.out.setCell (p := ⟨T, 1, none⟩) (by show w.1.size <= T; omega) (.slice none 0 0)
    have t1 := Z8w pD.out 1 (.slice none 0 0)
    have x1 := (ZA wx ⟨T, 1, none⟩ (.slice none 0 0) (X) (Ne.symm pA.out.1)).trans pI.out
    have k1 := (ZA wx ⟨T, 1, none⟩ (.slice none 0 0) (X + 1) (Ne.symm pA.out.2.1)).trans pE.out
    have a1 := (ZA wx ⟨T, 1, none⟩ (.slice none 0 0) (a) (Ne.symm pA.out.2.2.1)).trans pL.out
    have qC := Z0 lv1
    have qD := Z0 op1
    have pM := Z0 iz1
    have pN := Z0 bb1
    have qE := Z0 bw1
    have qF := Z0 t1
    have qG := Z0 x1
    have qH := Z0 k1
    clear lv1 op1 iz1 bb1 bw1 t1 x1 k1 a1
    go_wp2_with fail
    go_meet
    refine ⟨ar, _, cr, none, 0, 0, 1, 20, some ⟨a, 0, none⟩, l'.length, cp, rfl, rfl, qE.out, qF.out, qG.out, qH.out, fun W hW => ?_⟩
    have pH : T <= _ := pF.out ▸ pN.out.size
    have h1 := (pU.out.r.below (by rw [pF.out]; exact Z01 pN.out pH hW))
    have h2 := qC.out.reads.below hW
    have h3 := (RdPces.of_owns qD.out).below hW
    have h4 := Z5e ((hW.block gz pM.out.lt).trans pM.out : IntsAt W gz zs) pS.out
    rw [pQ.out] at h4
    exact wr3 (k := ⟨1, 20, 1, 1⟩) HP.out rO.out sP.out (by omega) h1 h2 h3 h4
   ·have qB : (c.toNat : Int).tmod 6 = 4 := pB
    clear pB
    have lv1 := Z4H pR.out pL.out (by decide) (by decide) 2 (.string ⟨#[49]⟩)
    have op1 : OwnsP (wx.setCell ⟨a, 2, none⟩ (.string ⟨#[49]⟩)) B (.slice (some ⟨a, 0, none⟩) l'.length cp) (setC ⟨#[49]⟩ (Z05 l').ps) := by
     have := OwnsP.put pG.out 0 2 pC (by decide) { (Z05 l').ps[0]'pC with code := ⟨#[49]⟩ } (.string ⟨#[49]⟩) (by rfl)
     rw [Zjh pC ⟨#[49]⟩] at this
     exact this
    have iz1 := IntsAt.setOther (a := ⟨a, 2, none⟩) pK.out pA.out.2.2.2.2.2.2.2.2 (.string ⟨#[49]⟩)
    have bb1 := pV.out.setCell (p := ⟨a, 2, none⟩) (by show T <= a; omega) (.string ⟨#[49]⟩)
    have bw1 := pW.out.setCell (p := ⟨a, 2, none⟩) (by show w.1.size <= a; omega) (.string ⟨#[49]⟩)
    have t1 := (ZA wx ⟨a, 2, none⟩ (.string ⟨#[49]⟩) (T) pA.out.2.2.1).trans pD.out
    have x1 := (ZA wx ⟨a, 2, none⟩ (.string ⟨#[49]⟩) (X) (Ne.symm pA.out.2.2.2.1)).trans pI.out
    have k1 := (ZA wx ⟨a, 2, none⟩ (.string ⟨#[49]⟩) (X + 1) (Ne.symm pA.out.2.2.2.2.1)).trans pE.out
    have a1 := Z8w pL.out 2 (.string ⟨#[49]⟩)
    have lv2 := Z4H lv1 t1 (by decide) (by decide) 1 (.slice none 0 0)
    have op2 := Z2N op1 t1 (by decide) 1 (.slice none 0 0)
    have iz2 := IntsAt.setOther (a := ⟨T, 1, none⟩) iz1 pA.out.2.2.2.2.2.2.2.1 (.slice none 0 0)
    have bb2 := bb1.setCell (p := ⟨T, 1, none⟩) (by show T <= T; omega) (.slice none 0 0)
    have bw2 := bw1.setCell (p := ⟨T, 1, none⟩) (by show w.1.size <= T; omega) (.slice none 0 0)
    have t2 := Z8w t1 1 (.slice none 0 0)
    have x2 := (ZA (wx.setCell ⟨a, 2, none⟩ (.string ⟨#[49]⟩)) ⟨T, 1, none⟩ (.slice none 0 0) (X) (Ne.symm pA.out.1)).trans x1
    have k2 := (ZA (wx.setCell ⟨a, 2, none⟩ (.string ⟨#[49]⟩)) ⟨T, 1, none⟩ (.slice none 0 0) (X + 1) (Ne.symm pA.out.2.1)).trans k1
    have a2 := (ZA (wx.setCell ⟨a, 2, none⟩ (.string ⟨#[49]⟩)) ⟨T, 1, none⟩ (.slice none 0 0) (a) (Ne.symm pA.out.2.2.1)).trans a1
    have qI := Z0 lv2
    have qJ := Z0 op2
    have pO := Z0 iz2
    have pP := Z0 bb2
    have qK := Z0 bw2
    have qL := Z0 t2
    have qM := Z0 x2
    have qN := Z0 k2
    clear lv1 op1 iz1 bb1 bw1 t1 x1 k1 a1 lv2 op2 iz2 bb2 bw2 t2 x2 k2 a2
    go_wp2_with fail
    go_meet
    refine ⟨ar, _, cr, none, 0, 0, 1, 20, some ⟨a, 0, none⟩, l'.length, cp, rfl, rfl, qK.out, qL.out, qM.out, qN.out, fun W hW => ?_⟩
    have pH : T <= _ := pF.out ▸ pP.out.size
    have h1 := (pU.out.r.below (by rw [pF.out]; exact Z01 pP.out pH hW))
    have h2 := qI.out.reads.below hW
    have h3 := (RdPces.of_owns qJ.out).below hW
    have h4 := Z5e ((hW.block gz pO.out.lt).trans pO.out : IntsAt W gz zs) pS.out
    rw [pQ.out] at h4
    exact wr4 (k := ⟨1, 20, 1, 1⟩) HP.out tK.out (by omega) h1 h2 h3 h4
   ·have qB : (c.toNat : Int).tmod 6 = 5 := pB
    clear pB
    have lv1 := Z4H pR.out pE.out (by decide) (by decide) 1 (.int .i64 50000)
    have op1 := Z2N pG.out pE.out (by decide) 1 (.int .i64 50000)
    have iz1 := IntsAt.setOther (a := ⟨X + 1, 1, none⟩) pK.out pA.out.2.2.2.2.2.2.1 (.int .i64 50000)
    have bb1 := pV.out.setCell (p := ⟨X + 1, 1, none⟩) (by show T <= X + 1; omega) (.int .i64 50000)
    have bw1 := pW.out.setCell (p := ⟨X + 1, 1, none⟩) (by show w.1.size <= X + 1; omega) (.int .i64 50000)
    have t1 := (ZA wx ⟨X + 1, 1, none⟩ (.int .i64 50000) (T) pA.out.2.1).trans pD.out
    have x1 := (ZA wx ⟨X + 1, 1, none⟩ (.int .i64 50000) (X) (show X ≠ X + 1 by omega)).trans pI.out
    have k1 := Z8w pE.out 1 (.int .i64 50000)
    have a1 := (ZA wx ⟨X + 1, 1, none⟩ (.int .i64 50000) (a) pA.out.2.2.2.2.1).trans pL.out
    have lv2 := Z4H lv1 a1 (by decide) (by decide) 3 (.int .i64 50000)
    have op2 : OwnsP ((wx.setCell ⟨X + 1, 1, none⟩ (.int .i64 50000)).setCell ⟨a, 3, none⟩ (.int .i64 50000)) B (.slice (some ⟨a, 0, none⟩) l'.length cp) (Z3Z 50000 (Z05 l').ps) := by
     have := OwnsP.put op1 0 3 pC (by decide) { (Z05 l').ps[0]'pC with grams := 50000 } (.int .i64 50000) (by rfl)
     rw [ZiE pC 50000] at this
     exact this
    have iz2 := IntsAt.setOther (a := ⟨a, 3, none⟩) iz1 pA.out.2.2.2.2.2.2.2.2 (.int .i64 50000)
    have bb2 := bb1.setCell (p := ⟨a, 3, none⟩) (by show T <= a; omega) (.int .i64 50000)
    have bw2 := bw1.setCell (p := ⟨a, 3, none⟩) (by show w.1.size <= a; omega) (.int .i64 50000)
    have t2 := (ZA (wx.setCell ⟨X + 1, 1, none⟩ (.int .i64 50000)) ⟨a, 3, none⟩ (.int .i64 50000) (T) pA.out.2.2.1).trans t1
    have x2 := (ZA (wx.setCell ⟨X + 1, 1, none⟩ (.int .i64 50000)) ⟨a, 3, none⟩ (.int .i64 50000) (X) (Ne.symm pA.out.2.2.2.1)).trans x1
    have k2 := (ZA (wx.setCell ⟨X + 1, 1, none⟩ (.int .i64 50000)) ⟨a, 3, none⟩ (.int .i64 50000) (X + 1) (Ne.symm pA.out.2.2.2.2.1)).trans k1
    have a2 := Z8w a1 3 (.int .i64 50000)
    have qI := Z0 lv2
    have qJ := Z0 op2
    have pO := Z0 iz2
    have pP := Z0 bb2
    have qK := Z0 bw2
    have qL := Z0 t2
    have qM := Z0 x2
    have qN := Z0 k2
    clear lv1 op1 iz1 bb1 bw1 t1 x1 k1 a1 lv2 op2 iz2 bb2 bw2 t2 x2 k2 a2
    go_upto_region 7 with fail
    go_region
    all_goals
     go_wp2_with fail
     go_meet
     refine ⟨ar, _, cr, az, _, cz, 1, 50000, some ⟨a, 0, none⟩, l'.length, cp, rfl, rfl, qK.out.drew, qL.out, qM.out, qN.out, fun W uE => ?_⟩
     have hW := Z01 ((Z9 _ ((wx.setCell ⟨X + 1, 1, none⟩ (.int .i64 50000)).setCell ⟨a, 3, none⟩ (.int .i64 50000))).drew) (Z1 _) uE
     have pH : T <= _ := pF.out ▸ pP.out.size
     have h1 := (pU.out.below (by rw [pF.out]; exact Z01 pP.out pH hW))
     have h2 := qI.out.reads.below hW
     have h3 := (RdPces.of_owns qJ.out).below hW
     have h4 := Z5e ((hW.block gz pO.out.lt).trans pO.out : IntsAt W gz zs) pS.out
     rw [pQ.out] at h4
     exact wr5 (k := ⟨1, 20, 1, 1⟩) HP.out uD.out (by omega) h1 h2 h3 h4
  case rest =>
   obtain ⟨wz, uF⟩ : ∃ x, x = wc := ⟨_, rfl⟩
   subst uF
   obtain ⟨ar', nr', cr', az', nz', cz', c', gk, ap', np', cp', rfl, rfl, sQ, qO, qW, qX, rP⟩ := hcut
   have sR := Z0 (rP wz (Z9 _ _)).1
   have sS := Z0 (fun W hW => (rP W hW).2)
   have pX := (Z5.1 qO).1
   have sT := (Z5.1 qW).1
   have sU := (Z5.1 qX).1
   have sV := Z0 qO
   have uG := Z0 qW
   have uH := Z0 qX
   have sW := Z0 sQ
   have q0 := Kaa _ _ 0 _ _ _ qO
   have q1 := Kaa _ _ 1 _ _ _ qO
   obtain ⟨m0, m1, m2, m3⟩ := Z0r qW
   obtain ⟨k0, k1, k2, k3⟩ := Z0r qX
   clear rP qO qW qX sQ pD pI pE pR pG pK rM pS
   go_wp2_with fail
   refine sR.out.mono ?_
   rintro e w5 ⟨rfl, pT⟩
   have uI := pT.size
   have q0' := Kaa _ _ 0 _ _ _ ((pT.block _ pX).trans sV.out)
   have q1' := Kaa _ _ 1 _ _ _ ((pT.block _ pX).trans sV.out)
   obtain ⟨n0, n1, n2, n3⟩ := Z0r ((pT.block _ sT).trans uG.out)
   obtain ⟨r0, r1, r2, r3⟩ := Z0r ((pT.block _ sU).trans uH.out)
   have vC : T < w5.1.size := by omega
   have vD : X < w5.1.size := by omega
   have vE : X + 1 < w5.1.size := by omega
   have uJ := Z0 pT
   clear q0 q1 m0 m1 m2 m3 k0 k1 k2 k3 pT pX sT sU sR
   go_wp2_with fail
   obtain ⟨W6, qY⟩ : ∃ W, W = w5.alloc (.cells #[.slice none 0 0, .int .i64 0, .int .i64 0, .int .i64 0, .int .i64 0, .int .i64 0, .int .i64 0, .int .i64 0, .int .i64 0, .int .i64 0, .int .i64 0, .int .i64 0] 44) := ⟨_, rfl⟩
   rw [<- qY]
   have h6 : W6.1[w5.1.size]? = some (.cells #[.slice none 0 0, .int .i64 0, .int .i64 0, .int .i64 0, .int .i64 0, .int .i64 0, .int .i64 0, .int .i64 0, .int .i64 0, .int .i64 0, .int .i64 0, .int .i64 0] 44 (0, 0)) := by rw [qY]; exact Z02 w5 _
   have b6 : Below wz.1.size wz W6 := by rw [qY]; exact uJ.out.alloc uI _
   refine (sS.out W6 b6).mono ?_
   rintro e w7 ⟨rfl, rQ⟩
   obtain ⟨v0, v1, v2, v3, v4, v5, v6, v7, v8, v9, v10, v11⟩ := Z5t ((rQ.block _ (Z5.1 h6).1).trans h6)
   have sX := Z01 sW.out sW.out.size (Z01 b6 b6.size rQ)
   have uK := Z0 sX
   obtain ⟨p1, sY⟩ : ∃ p, p = Zht d := ⟨_, rfl⟩
   obtain ⟨p2, sZ⟩ : ∃ p, p = Zhs d := ⟨_, rfl⟩
   rw [<- sY, <- sZ]
   clear sY sZ qY h6 b6 rQ sX sS q0' q1' n0 n1 n2 n3 r0 r1 r2 r3
   go_wp2_with fail
   go_ret
   exact ⟨rfl, uK.out⟩
end Go.Proofs.YtlgajongmkhcnaaGreatDoor
