import Derived.Test.YtlgajongmkhcnaaGreatDoorQZ
import Derived.Test.YtlgajongmkhcnaaGreatDoorQK
import Derived.Test.YtlgajongmkhcnaaGreatDoorQC
import Derived.Test.YtlgajongmkhcnaaGreatDoorQF
import Derived.Test.YtlgajongmkhcnaaGreatDoorQO
import Derived.Test.YtlgajongmkhcnaaGreatDoorQN
import Derived.Test.YtlgajongmkhcnaaGreatDoorQM
set_option linter.unusedVariables false
set_option linter.unusedSimpArgs false
set_option maxHeartbeats 32000000
namespace Go.Proofs.YtlgajongmkhcnaaGreatDoor
open Go.RowKit
set_option maxRecDepth 100000
theorem ZaQ (B : Bits) (least cents : List UInt8) : ∀ l ∈ Z1C B least cents, 0 <= l.cents /\ l.cents <= 255 := by
 have hb : ∀ k, 0 <= ((cents.getD k 0).toNat : Int) /\ ((cents.getD k 0).toNat : Int) <= 255 := fun k => Zbi _
 have hA : ∀ (acc : List Lev) (lv : Lev), (∀ l ∈ acc, 0 <= l.cents /\ l.cents <= 255) -> ∀ l ∈ Zbm least cents acc lv, 0 <= l.cents /\ l.cents <= 255 := fun acc lv h l hl => by
  unfold Zbm at hl
  rcases ZG.1 hl with hl | hl
  ·exact h l hl
  ·obtain rfl := ZI.1 hl
   exact hb _
 have h1 : ∀ l ∈ mk1 B least cents, 0 <= l.cents /\ l.cents <= 255 := by
  unfold mk1
  split
  ·exact hA _ _ (fun l hl => by cases hl)
  ·exact fun l hl => by cases hl
 have h2 : ∀ l ∈ mk2 B least cents, 0 <= l.cents /\ l.cents <= 255 := by
  unfold mk2
  split
  ·exact hA _ _ h1
  ·exact h1
 have h3 : ∀ l ∈ mk3 B least cents, 0 <= l.cents /\ l.cents <= 255 := by
  unfold mk3
  split
  ·exact hA _ _ h2
  ·exact h2
 intro l hl
 unfold Z1C at hl
 rcases ZG.1 hl with hl | hl
 ·exact h3 l hl
 ·obtain rfl := ZI.1 hl
  exact hb _
theorem ZcL (n : Nat) (ps : List UInt8) : 0 < (Z1D n ps).rates.length := by
 have := Z6e n
 simp only [Z1D, Z7, List.length_range]; omega
theorem ZcM (n : Nat) (ps : List UInt8) : (Z1D n ps).rates[0]'(ZcL n ps) = Z1c ps n 0 := by simp [Z1D]
theorem Z9s (l : List UInt16) : ∀ p ∈ (Z08 l).ps, 1 <= p.grams /\ p.grams <= 20 := by
 intro p hp
 unfold Z08 Zav at hp
 obtain ⟨i, _, rfl⟩ := List.mem_map.1 hp
 have := Nat.mod_lt ((l.getD i 0).toNat / 4) (show 0 < 20 by decide)
 unfold p24
 dsimp only
 omega
theorem Zhu {n : Nat} {ps : List UInt8} {m : Mai} (hg : ∀ p ∈ m.ps, p.grams <= 20) {i : Nat} (hi : i < m.ps.length) :
 (Z0w (Z1D n ps) (Z1c ps n 0) m i).2 = 0 /\ 300 <= (Z0w (Z1D n ps) (Z1c ps n 0) m i).1 /\ (Z0w (Z1D n ps) (Z1c ps n 0) m i).1 <= 555 := by
 have hm : m.ps.getD i ⟨0, 0, ⟨#[]⟩, 0, false⟩ ∈ m.ps := by
  rw [Z2, Z3 hi]
  exact Z4 hi
 have hz := Zag (Z8i n ps) m.origin (m.ps.getD i ⟨0, 0, ⟨#[]⟩, 0, false⟩).code
 unfold Z0w
 dsimp only
 rw [Zaw ps n 0 (hg _ hm)]
 generalize Z4L (Z1D n ps).zones m.origin (m.ps.getD i ⟨0, 0, ⟨#[]⟩, 0, false⟩).code = z at hz
 have hk : (z - 1).toNat < Z1p n := by omega
 have e : Z5w (Z3e ps (Z1p n) 0 0) z = ((Z1N ps (17 * 0 + 5 * 0 + (z - 1).toNat) : Nat) : Int) := by
  unfold Z5w Z3e
  dsimp only
  rw [Z2, List.getElem?_map, List.getElem?_range hk]; rfl
 rw [e]
 have := Z6g ps (17 * 0 + 5 * 0 + (z - 1).toNat)
 refine ⟨rfl, ?_, ?_⟩
 ·show (300 : Int) <= ((Z1N ps (17 * 0 + 5 * 0 + (z - 1).toNat) : Nat) : Int); omega
 ·show ((Z1N ps (17 * 0 + 5 * 0 + (z - 1).toNat) : Nat) : Int) <= 555; omega
theorem ZgV {ls : List Lev} (h : ∀ l ∈ ls, 0 <= l.cents /\ l.cents <= 255) (z : Int) : 0 <= Z71 ls z /\ Z71 ls z <= 255 := by
 unfold Z71
 rw [Z2]
 cases hq : ls[z.toNat]? with
 | none => exact ⟨Int.le_refl _, by decide⟩
 | some l => exact h l (List.mem_of_getElem? hq)
theorem Zim (n : Nat) : 0 <= ((Z90 n : Nat) : Int) /\ ((Z90 n : Nat) : Int) <= 31 := by unfold Z90; omega
structure LnK (bar : Int) (x : Ln) : Prop where
 cents : x.cents = x.base - x.bar - x.saved
 pos : 0 <= x.cents
 barb : x.bar = x.barred * bar
abbrev plN (n : Nat) (ps : List UInt8) (ls : List Lev) (m : Mai) (zs : List Int) : Nat -> Ln :=
 Z38 m (Z90 n : Nat) (fun i => (Z0w (Z1D n ps) (Z1c ps n 0) m i).1) (Z51 (Z1D n ps) (Z1c ps n 0) ls m zs) ls zs
theorem ZiN {n : Nat} {ps : List UInt8} {ls : List Lev} {m : Mai} {zs : List Int} (hg : ∀ p ∈ m.ps, 1 <= p.grams /\ p.grams <= 20) (hc : ∀ l ∈ ls, 0 <= l.cents /\ l.cents <= 255) {i : Nat} (hi : i < m.ps.length) :
 LnIn 1000 (plN n ps ls m zs i) /\ LnK (Z90 n : Nat) (plN n ps ls m zs i) := by
 obtain ⟨_, b1, b2⟩ := Zhu (n := n) (ps := ps) (fun p hp => (hg p hp).2) hi
 have hm : m.ps.getD i ⟨0, 0, ⟨#[]⟩, 0, false⟩ ∈ m.ps := by
  rw [Z2, Z3 hi]
  exact Z4 hi
 have hgr := hg _ hm
 have hcl := ZgV hc (zs.getD i (-1))
 have hbr := Zim n
 have hrb : (Z1c ps n 0).bar = ((Z90 n : Nat) : Int) := rfl
 unfold plN Z38 Z51
 rw [hrb]
 dsimp only
 generalize (Z0w (Z1D n ps) (Z1c ps n 0) m i).1 = b at b1 b2
 generalize Z71 ls (zs.getD i (-1)) = c at hcl
 generalize ((Z90 n : Nat) : Int) = r at hbr
 generalize (m.ps.getD i ⟨0, 0, ⟨#[]⟩, 0, false⟩).grams = g at hgr
 cases Za6 m i
 ·refine ⟨⟨?_, ?_, ?_, ?_, ?_, ?_, ?_⟩, ⟨?_, ?_, ?_⟩⟩ <;> (dsimp only; (try simp only [Bool.false_eq_true, if_false]); (first | done | omega))
 ·refine ⟨⟨?_, ?_, ?_, ?_, ?_, ?_, ?_⟩, ⟨?_, ?_, ?_⟩⟩ <;> (dsimp only; (try simp only [if_true]); (first | done | omega))
theorem Zi0 {a b : Int} {x : Ln} (h : LnIn a x) (hab : a <= b) : LnIn b x := by
 obtain ⟨a1, a2, a3, a4, a5, a6, a7⟩ := h
 exact ⟨⟨a1.1, Int.le_trans a1.2 hab⟩, ⟨a2.1, Int.le_trans a2.2 hab⟩, ⟨a3.1, Int.le_trans a3.2 hab⟩, ⟨a4.1, Int.le_trans a4.2 hab⟩, ⟨a5.1, Int.le_trans a5.2 hab⟩, ⟨a6.1, Int.le_trans a6.2 hab⟩, ⟨a7.1, Int.le_trans a7.2 hab⟩⟩
end Go.Proofs.YtlgajongmkhcnaaGreatDoor
namespace Go.Proofs.YtlgajongmkhcnaaGreatDoor
open Go.RowKit Go.Sort
set_option maxRecDepth 100000
abbrev ZjK : Value := .string ⟨#[49, 48, 48, 50, 51]⟩
abbrev ZaO (vp : Value) : Value := .agg #[.int .u8 1, .int .u8 1, ZjK, vp]
abbrev Zje (k : Pck) : Value := .agg #[.int .i64 k.pieces, .int .i64 k.grams, .int .i64 k.bundles, .int .i64 k.trays]
abbrev ZjL (X : Man) (v : Value) : Value := .agg #[v, .int .i64 X.total.level, .int .i64 X.total.pieces, .int .i64 X.total.barred, .int .i64 X.total.grams, .int .i64 X.total.base, .int .i64 X.total.bar, .int .i64 X.total.saved, .int .i64 X.total.cents, .int .i64 X.buns, .int .i64 X.tras, .int .i64 X.cons]
structure Mk27 (n : Nat) (ps : List UInt8) (ls : List Lev) (l : List UInt16) : Prop where
 hp : HasPlan ls (Z08 l)
 ct : ∀ x ∈ ls, 0 <= x.cents /\ x.cents <= 255
section
variable {n : Nat} {ps : List UInt8} {ls : List Lev} {l : List UInt16}
theorem Mk27.cz (h : Mk27 n ps ls l) : ∀ p ∈ (Z08 l).ps, p.code.size <= maxLen := fun p hp => by have := Z0s ((Z1F h.hp.mail).2 p hp); unfold maxLen; omega
theorem Mk27.fits (h : Mk27 n ps ls l) : ∀ x ∈ ls, Z0G x := Z1q h.hp.right
theorem Ze1 (n : Nat) (ps : List UInt8) (l : List UInt16) : ((Z1D n ps).rates[0]'(ZcL n ps)).cls = (Z08 l).cls := by rw [ZcM]; rfl
theorem Mk27.ok (h : Mk27 n ps ls l) : ∀ i, i < (Z08 l).ps.length -> (Z0w (Z1D n ps) ((Z1D n ps).rates[0]'(ZcL n ps)) (Z08 l) i).2 = 0 := fun i hi => by
 rw [ZcM]
 exact (Zhu (fun p hp => (Z9s l p hp).2) hi).1
theorem Z7L {K : Nat} {zs : List Int} (h : Z1g K zs = true) : ∀ x ∈ zs, 0 <= x /\ x < (K : Int) := fun x hx => by
 obtain ⟨i, hi, rfl⟩ := List.getElem_of_mem hx
 exact Z6m h i hi
theorem Mk27.post (h : Mk27 n ps ls l) {zs : List Int} (hzl : zs.length = (Z08 l).ps.length) (hn : Z1g ls.length zs = true) {vr vz vl vp vn : Value} (W : World) (hT : RdTar W vr vz (Z1D n ps)) (hr : RdLevs W vl ls) (hrp : RdPces W vp (Z08 l).ps) (hz : RdInts W vn zs) :
 Calls Tryz.prog 13 #[.agg #[vr, vz], vl, ZaO vp, vn] W fun e w' => ∃ g, e = .returned (.tuple #[.slice (some ⟨g, 0, none⟩) (Z08 l).ps.length (Z08 l).ps.length, .int .i64 0]) /\ Below W.1.size W w' /\ W.1.size <= g /\
  w'.ownsRow W.1.size 3 1 (.slice (some ⟨g, 0, none⟩) (Z08 l).ps.length (Z08 l).ps.length) (Z08 l).ps.length ((List.range (Z08 l).ps.length).map (fun i => Value.int .i64 (plN n ps ls (Z08 l) zs i).cents)) := by
 have := Z7E (Z8i n ps) (ZfM n ps h.ct) W hT hr h.fits h.hp.right hrp h.hp.mail h.hp.rng.2.1 h.cz hz hzl (Z7L hn) (ZcL n ps) (Ze1 n ps l) h.ok
 rw [ZcM] at this
 exact this
theorem Mk27.bases (h : Mk27 n ps ls l) {vr vz vp : Value} (W : World) (hT : RdTar W vr vz (Z1D n ps)) (hrp : RdPces W vp (Z08 l).ps) :
 Calls Tryz.prog 35 #[.agg #[vr, vz], ZaO vp] W fun e w' => ∃ g, e = .returned (.tuple #[.slice (some ⟨g, 0, none⟩) (Z08 l).ps.length (Z08 l).ps.length, .int .i64 0]) /\ Below W.1.size W w' /\ W.1.size <= g /\
  w'.ownsRow W.1.size 3 1 (.slice (some ⟨g, 0, none⟩) (Z08 l).ps.length (Z08 l).ps.length) (Z08 l).ps.length ((List.range (Z08 l).ps.length).map (fun i => Value.int .i64 (Z0w (Z1D n ps) (Z1c ps n 0) (Z08 l) i).1)) := by
 have := Z8X (Z8i n ps) W hT hrp h.hp.mail h.hp.rng.2.1 h.cz (ZcL n ps) (Ze1 n ps l) h.ok
 rw [ZcM] at this
 exact this
theorem Mk27.state (h : Mk27 n ps ls l) {zs : List Int} (hzl : zs.length = (Z08 l).ps.length) (hn : Z1g ls.length zs = true) {vr vz vl vp vn vb vt vc : Value} {nb nt nc : Nat} (W : World) (hT : RdTar W vr vz (Z1D n ps)) (hr : RdLevs W vl ls) (hrp : RdPces W vp (Z08 l).ps) (hz : RdInts W vn zs)
 (hb : ∃ a c, vb = .slice a nb c) (ht : ∃ a c, vt = .slice a nt c) (hc : ∃ a c, vc = .slice a nc c) (hb3 : nb <= 100000 /\ nt <= 100000 /\ nc <= 100000) :
 Calls Tryz.prog 28 #[.agg #[vr, vz], vl, ZaO vp, vn, .agg #[vb, vt, vc]] W fun e w' => ∃ v, e = .returned (.tuple #[Z9B (Z6t zs (plN n ps ls (Z08 l) zs) (Z08 l).ps.length ls.length nb nt nc) v, .int .i64 0]) /\ Below W.1.size W w' /\ OwnsLn w' W.1.size v (Z6t zs (plN n ps ls (Z08 l) zs) (Z08 l).ps.length ls.length nb nt nc).lines := by
 obtain ⟨ar, cr, rfl, _⟩ := id hT.r
 obtain ⟨az, cz, rfl, _⟩ := id hT.z
 have hl6 := Z0z h.hp.right
 have hq0 := ZcM n ps
 exact Zbz (m := Z08 l) (ls := ls) (zs := zs) (bar := (Z90 n : Nat)) (B := fun i => (Z0w (Z1D n ps) (Z1c ps n 0) (Z08 l) i).1) (R := Z51 (Z1D n ps) (Z1c ps n 0) ls (Z08 l) zs) W hrp hr hz ⟨_, _, _, rfl⟩ ⟨_, _, _, rfl⟩ hb ht hc h.hp.few ⟨hl6.1, by omega⟩ hzl (Z7L hn) hb3
  (fun i hi => Zi0 (ZiN (Z9s l) h.ct hi).1 (by decide))
  (fun W' hW => h.post hzl hn W' (hT.below hW) (hr.below hW) (hrp.below hW) (hz.below hW))
  (fun W' hW => h.bases W' (hT.below hW) (hrp.below hW))
  (fun W' hW => by
   have := Za8 (vr := .slice ar (Z1D n ps).rates.length cr) (vz := .slice az (Z1D n ps).zones.length cz) (Z08 l).cls W' (hT.below hW) (Z8i n ps).rates.2 (ZcL n ps) (Ze1 n ps l) (fun i hi hlt => absurd hlt (Nat.not_lt_zero _))
   rw [ZcM] at this
   exact this)
end
noncomputable def Z8y (n : Nat) (ps : List UInt8) (ls : List Lev) (l : List UInt16) (zs : List Int) (L : Lod) : Man := Z6t zs (plN n ps ls (Z08 l) zs) (Z08 l).ps.length ls.length L.buns.length L.tras.length L.cons.length
noncomputable def Z7U (ls : List Lev) (l : List UInt16) (zs : List Int) (k : Pck) : Lod := ZeH k (Z08 l).ps zs (Z0Y ls (Z06 (Z08 l).ps) ls.length)
theorem Z8B {ls : List Lev} {l : List UInt16} (h : HasPlan ls (Z08 l)) {zs : List Int} (hzl : zs.length = (Z08 l).ps.length) (hn : Z1g ls.length zs = true) {k : Pck} (hk : Z7f k = true) (hkg : ∀ p ∈ (Z08 l).ps, p.grams <= k.grams) : (Z7U ls l zs k).buns.length <= 100000 /\ (Z7U ls l zs k).tras.length <= 100000 /\ (Z7U ls l zs k).cons.length <= 100000 := by
 have hpd := Z9p h hzl hn hk hkg
 have h1 := hpd.lens
 have h2 := h.few
 unfold Z7U
 omega
def Zja (n : Nat) (ps : List UInt8) (ls : List Lev) (l : List UInt16) (zs : List Int) (k : Pck) (M : Man) : Prop :=
 ∀ W vr vz v vp vn, RdTar W vr vz (Z1D n ps) -> RdLevs W v ls -> RdPces W vp (Z08 l).ps -> RdInts W vn zs -> Calls Tryz.prog 11 #[.agg #[vr, vz], v, ZaO vp, vn, Zje k] W fun e w' => ∃ av cv, e = .returned (.tuple #[ZjL M (.slice av M.lines.length cv), .int .i64 0]) /\ Below W.1.size W w' /\ OwnsLn w' W.1.size (.slice av M.lines.length cv) M.lines
theorem ZiT {n : Nat} {ps : List UInt8} {ls : List Lev} {l : List UInt16} (h : Mk27 n ps ls l) {zs : List Int} (hzl : zs.length = (Z08 l).ps.length) (hn : Z1g ls.length zs = true) {k : Pck} (hA : Zab ls (Z08 l) zs k = 0) (hk : Z7f k = true) (hkg : ∀ p ∈ (Z08 l).ps, p.grams <= k.grams) :
 Zja n ps ls l zs k (Z8y n ps ls l zs (Z7U ls l zs k)) := by
 intro W vr vz v vp vn h1 h2 h3 h4
 obtain ⟨ar, cr, rfl, _⟩ := id h1.r
 obtain ⟨az, cz, rfl, _⟩ := id h1.z
 obtain ⟨al, cl, rfl, _⟩ := id h2
 obtain ⟨ap, cp, rfl, _⟩ := id h3
 obtain ⟨an, cn, rfl, _⟩ := id h4
 refine Calls.mono (ZeC (M := Z8y n ps ls l zs (Z7U ls l zs k)) (m := Z08 l) (k := k) (nb := (Z7U ls l zs k).buns.length) (nt := (Z7U ls l zs k).tras.length) (nc := (Z7U ls l zs k).cons.length) W ⟨_, _, _, rfl⟩ ⟨_, _, _, rfl⟩ ⟨_, _, _, rfl⟩ ⟨_, _, _, rfl⟩ ⟨_, _, _, rfl⟩ (fun W' hW => ?_) (fun W' ab cb at' ct ac cc hW => ?_)) ?_
 ·refine (ZaE h.hp (h2.below hW) (h3.below hW) (h4.below hW) hzl hn hA hk hkg rfl).mono ?_
  rintro e w' ⟨ab, cb, at', ct, ac, cc, rfl, hb, _⟩
  exact ⟨ab, cb, at', ct, ac, cc, rfl, hb⟩
 ·exact h.state hzl hn W' (h1.below hW) (h2.below hW) (h3.below hW) (h4.below hW) ⟨_, _, rfl⟩ ⟨_, _, rfl⟩ ⟨_, _, rfl⟩ (Z8B h.hp hzl hn hk hkg)
 ·rintro e w' ⟨v, rfl, hb, ho⟩
  obtain ⟨ax, cx, rfl⟩ := Z0B ho
  exact ⟨ax, cx, rfl, hb, ho⟩
def ZjG (n : Nat) (ps : List UInt8) (args : Array Value) (w : World) : Prop :=
 ∀ W, Below w.1.size w W -> Calls Tryz.prog 9 args W fun e w' => ∃ ar cr az cz, e = .returned (.agg #[.slice ar (Z1D n ps).rates.length cr, .slice az (Z1D n ps).zones.length cz]) /\ Below W.1.size W w' /\ RdTar w' (.slice ar (Z1D n ps).rates.length cr) (.slice az (Z1D n ps).zones.length cz) (Z1D n ps)
theorem Zjn {n : Nat} {ps : List UInt8} {vp : Value} {w : World} (hn : n < 4294967296) (hr : RdBytes w vp ps) (hl : ps.length <= maxLen) : ZjG n ps #[.int .u32 (n : Nat), vp] w := by
 intro W hW
 refine (Zd3 n ps vp W hn (hr.below hW) hl).mono ?_
 rintro e w' ⟨a, ca, b, cb, rfl, hb, hT⟩
 have e1 : (Z1D n ps).rates.length = Z32 n := by simp [Z1D]
 have e2 : (Z1D n ps).zones.length = (Z0u n 9).length := rfl
 rw [e1, e2]
 exact ⟨a, ca, b, cb, rfl, hb, hT⟩
structure Keep (w : World) (n : Nat) (ps : List UInt8) (ls : List Lev) (np : Nat) (pcs : List Pce) (zs : List Int) (k : Pck) (T X gz : Nat) (ar az al ap : Option Addr) (cr cz cl cp : Nat) (W : World) : Prop where
 t : W.cell? ⟨T, 0, none⟩ = some (.slice ar (Z1D n ps).rates.length cr) /\ W.cell? ⟨T, 1, none⟩ = some (.slice az (Z1D n ps).zones.length cz)
 m : W.cell? ⟨X, 0, none⟩ = some (.int .u8 1) /\ W.cell? ⟨X, 1, none⟩ = some (.int .u8 1) /\ W.cell? ⟨X, 2, none⟩ = some (.string ⟨#[49, 48, 48, 50, 51]⟩) /\ W.cell? ⟨X, 3, none⟩ = some (.slice ap np cp)
 k : W.cell? ⟨X + 1, 0, none⟩ = some (.int .i64 k.pieces) /\ W.cell? ⟨X + 1, 1, none⟩ = some (.int .i64 k.grams) /\ W.cell? ⟨X + 1, 2, none⟩ = some (.int .i64 k.bundles) /\ W.cell? ⟨X + 1, 3, none⟩ = some (.int .i64 k.trays)
 lt : T < W.1.size /\ X < W.1.size /\ X + 1 < W.1.size /\ gz < W.1.size
 rt : RdTar W (.slice ar (Z1D n ps).rates.length cr) (.slice az (Z1D n ps).zones.length cz) (Z1D n ps)
 rl : RdLevs W (.slice al ls.length cl) ls
 rp : RdPces W (.slice ap np cp) pcs
 rz : IntsAt W gz zs
 tb : TabW W
 bw : Below w.1.size w W
theorem Keep.of {w w2 W2 w3 W4 : World} {n : Nat} {ps : List UInt8} {ls : List Lev} {np : Nat} {pcs : List Pce} {zs : List Int} {k : Pck} {gz B1 B2 : Nat} {ar az al ap : Option Addr} {cr cz cl cp : Nat} (ht : TabW w) (hb2 : Below w.1.size w w2) (hT : RdTar w2 (.slice ar (Z1D n ps).rates.length cr) (.slice az (Z1D n ps).zones.length cz) (Z1D n ps))
 (hW2 : W2 = w2.alloc (.cells #[.slice ar (Z1D n ps).rates.length cr, .slice az (Z1D n ps).zones.length cz] 29)) (hb3 : Below W2.1.size W2 w3) (hL : OwnsLv w3 B1 (.slice al ls.length cl) ls) (hP : OwnsP w3 B2 (.slice ap np cp) pcs) (hz : IntsAt w3 gz zs)
 (hW4 : W4 = (w3.alloc (.cells #[.int .u8 1, .int .u8 1, .string ⟨#[49, 48, 48, 50, 51]⟩, .slice ap np cp] 34)).alloc (.cells #[.int .i64 k.pieces, .int .i64 k.grams, .int .i64 k.bundles, .int .i64 k.trays] 37)) :
 (∀ W, Below W4.1.size W4 W -> Keep w n ps ls np pcs zs k w2.1.size w3.1.size gz ar az al ap cr cz cl cp W) /\ w2.1.size < w3.1.size := by
 have s2 : W2.1.size = w2.1.size + 1 := by rw [hW2]; simp
 have t0 : W2.1[w2.1.size]? = some (.cells #[.slice ar (Z1D n ps).rates.length cr, .slice az (Z1D n ps).zones.length cz] 29 (0, 0)) := by rw [hW2]; exact Z01 w2 _
 have b2 : Below w2.1.size w2 W2 := by rw [hW2]; exact (Z9 _ w2).alloc (Z1 _) _
 obtain ⟨t1, t2, t3, t4⟩ := Z8b hW4
 have s3 := hb3.size
 have sz4 := t4.size
 have hgz := hz.lt
 refine ⟨fun W hW => ?_, by omega⟩
 have sW := hW.size
 have c0 := (hW.block _ (by omega)).trans ((t4.block _ (by omega)).trans ((hb3.block _ (by omega)).trans t0))
 have c1 := (hW.block _ (by omega)).trans t1
 have c2 := (hW.block _ (by omega)).trans t2
 have b3W : Below w3.1.size w3 W := Z00 t4 t4.size hW
 have b2W : Below w2.1.size w2 W := Z00 b2 b2.size (Z00 hb3 hb3.size b3W)
 have bw : Below w.1.size w W := Z00 hb2 hb2.size b2W
 exact ⟨⟨cell_of_row _ _ 0 _ _ _ c0, cell_of_row _ _ 1 _ _ _ c0⟩, Z0D c1, Z0D c2, ⟨by omega, by omega, by omega, by omega⟩, hT.below b2W, hL.reads.below b3W, (RdPces.of_owns hP).below b3W, (b3W.block _ hgz).trans hz, ht.below bw, bw⟩
end Go.Proofs.YtlgajongmkhcnaaGreatDoor
