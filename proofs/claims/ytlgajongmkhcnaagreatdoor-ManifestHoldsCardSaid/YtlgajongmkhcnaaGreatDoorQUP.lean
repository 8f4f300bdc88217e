import Derived.Test.YtlgajongmkhcnaaGreatDoorQUK
import Derived.Test.YtlgajongmkhcnaaGreatDoorQUC
import Derived.Test.YtlgajongmkhcnaaGreatDoorQUF
import Derived.Test.YtlgajongmkhcnaaGreatDoorQUO
import Derived.Test.YtlgajongmkhcnaaGreatDoorQUN
import Derived.Test.YtlgajongmkhcnaaGreatDoorQUb
import Derived.Test.YtlgajongmkhcnaaGreatDoorQUV
set_option maxRecDepth 100000
set_option linter.unusedVariables false
set_option linter.unusedSimpArgs false
set_option maxHeartbeats 32000000
namespace Go.Proofs.YtlgajongmkhcnaaGreatDoor
section
open Go.RowKit
theorem Z7a (B : Bits) (least cents : List UInt8) : ∀ l ∈ Z1O B least cents, 0 <= l.cents /\ l.cents <= 255 := by
 have hb : ∀ k, 0 <= ((cents.getD k 0).toNat : Int) /\ ((cents.getD k 0).toNat : Int) <= 255 := fun k => Zc3 _
 have hA : ∀ (acc : List Lev) (lv : Lev), (∀ l ∈ acc, 0 <= l.cents /\ l.cents <= 255) -> ∀ l ∈ Zc6 least cents acc lv, 0 <= l.cents /\ l.cents <= 255 := fun acc lv h l hl => by
  unfold Zc6 at hl
  rcases ZG.1 hl with hl | hl
  ·exact h l hl
  ·obtain rfl := ZI.1 hl
   exact hb _
 have h1 : ∀ l ∈ mk1 B least cents, 0 <= l.cents /\ l.cents <= 255 := by
  unfold mk1
  split
  ·exact hA _ _ (fun l hl => by cases hl)
  ·exact fun l hl => by cases hl
 have h2 : ∀ l ∈ mk2 B least cents, 0 <= l.cents /\ l.cents <= 255 := by
  unfold mk2
  split
  ·exact hA _ _ h1
  ·exact h1
 have h3 : ∀ l ∈ mk3 B least cents, 0 <= l.cents /\ l.cents <= 255 := by
  unfold mk3
  split
  ·exact hA _ _ h2
  ·exact h2
 intro l hl
 unfold Z1O at hl
 rcases ZG.1 hl with hl | hl
 ·exact h3 l hl
 ·obtain rfl := ZI.1 hl
  exact hb _
theorem Za2 (n : Nat) (ps : List UInt8) : 0 < (Z1H n ps).rates.length := by
 have := Z6P n
 simp only [Z1H, Z7, Kay]; omega
theorem Zbh (n : Nat) (ps : List UInt8) : (Z1H n ps).rates[0]'(Za2 n ps) = Z1i ps n 0 := by simp [Z1H]
theorem Z2j (l : List UInt16) : ∀ p ∈ (Z04 l).ps, 1 <= p.grams /\ p.grams <= 20 := by
 intro p hp
 unfold Z04 Zbi at hp
 obtain ⟨i, _, rfl⟩ := Kae.1 hp
 have := Kcj ((l.getD i 0).toNat / 4) (show 0 < 20 by decide)
 unfold p24
 dsimp only
 omega
theorem ZiM {n : Nat} {ps : List UInt8} {m : Mai} (hg : ∀ p ∈ m.ps, p.grams <= 20) {i : Nat} (hi : i < m.ps.length) :
 (Z0B (Z1H n ps) (Z1i ps n 0) m i).2 = 0 /\ 300 <= (Z0B (Z1H n ps) (Z1i ps n 0) m i).1 /\ (Z0B (Z1H n ps) (Z1i ps n 0) m i).1 <= 555 := by
 have hm : m.ps.getD i ⟨0, 0, ⟨#[]⟩, 0, false⟩ ∈ m.ps := by
  rw [Z2, Z3 hi]
  exact Z4 hi
 have hz := Zb4 (Z8T n ps) m.origin (m.ps.getD i ⟨0, 0, ⟨#[]⟩, 0, false⟩).code
 unfold Z0B
 dsimp only
 rw [Zbj ps n 0 (hg _ hm)]
 generalize Z5c (Z1H n ps).zones m.origin (m.ps.getD i ⟨0, 0, ⟨#[]⟩, 0, false⟩).code = z at hz
 have hk : (z - 1).toNat < Z1x n := by omega
 have e : Z63 (Z3v ps (Z1x n) 0 0) z = ((Z1Y ps (17 * 0 + 5 * 0 + (z - 1).toNat) : Nat) : Int) := by
  unfold Z63 Z3v
  dsimp only
  rw [Z2, Kal, Kb2 hk]; rfl
 rw [e]
 have := Z6R ps (17 * 0 + 5 * 0 + (z - 1).toNat)
 refine ⟨rfl, ?_, ?_⟩
 ·show (300 : Int) <= ((Z1Y ps (17 * 0 + 5 * 0 + (z - 1).toNat) : Nat) : Int); omega
 ·show ((Z1Y ps (17 * 0 + 5 * 0 + (z - 1).toNat) : Nat) : Int) <= 555; omega
theorem Zi9 {ls : List Lev} (h : ∀ l ∈ ls, 0 <= l.cents /\ l.cents <= 255) (z : Int) : 0 <= Z5I ls z /\ Z5I ls z <= 255 := by
 unfold Z5I
 rw [Z2]
 cases hq : ls[z.toNat]? with
 | none => exact ⟨Kbi _, by decide⟩
 | some l => exact h l (Kdq hq)
theorem ZgG (n : Nat) : 0 <= ((Z2M n : Nat) : Int) /\ ((Z2M n : Nat) : Int) <= 31 := by unfold Z2M; omega
structure LnK (bar : Int) (x : Ln) : Prop where
 cents : x.cents = x.base - x.bar - x.saved
 pos : 0 <= x.cents
 barb : x.bar = x.barred * bar
abbrev plN (n : Nat) (ps : List UInt8) (ls : List Lev) (m : Mai) (zs : List Int) : Nat -> Ln :=
 Z3p m (Z2M n : Nat) (fun i => (Z0B (Z1H n ps) (Z1i ps n 0) m i).1) (Z5o (Z1H n ps) (Z1i ps n 0) ls m zs) ls zs
theorem Za7 {n : Nat} {ps : List UInt8} {ls : List Lev} {m : Mai} {zs : List Int} (hg : ∀ p ∈ m.ps, 1 <= p.grams /\ p.grams <= 20) (hc : ∀ l ∈ ls, 0 <= l.cents /\ l.cents <= 255) {i : Nat} (hi : i < m.ps.length) :
 LnIn 1000 (plN n ps ls m zs i) /\ LnK (Z2M n : Nat) (plN n ps ls m zs i) := by
 obtain ⟨_, b1, b2⟩ := ZiM (n := n) (ps := ps) (fun p hp => (hg p hp).2) hi
 have hm : m.ps.getD i ⟨0, 0, ⟨#[]⟩, 0, false⟩ ∈ m.ps := by
  rw [Z2, Z3 hi]
  exact Z4 hi
 have pH := hg _ hm
 have pI := Zi9 hc (zs.getD i (-1))
 have pJ := ZgG n
 have pK : (Z1i ps n 0).bar = ((Z2M n : Nat) : Int) := rfl
 unfold plN Z3p Z5o
 rw [pK]
 dsimp only
 generalize (Z0B (Z1H n ps) (Z1i ps n 0) m i).1 = b at b1 b2
 generalize Z5I ls (zs.getD i (-1)) = c at pI
 generalize ((Z2M n : Nat) : Int) = r at pJ
 generalize (m.ps.getD i ⟨0, 0, ⟨#[]⟩, 0, false⟩).grams = g at pH
 cases ZaT m i
 ·refine ⟨⟨?_, ?_, ?_, ?_, ?_, ?_, ?_⟩, ⟨?_, ?_, ?_⟩⟩ <;> (dsimp only; (try simp only [Kcc, if_false]); (first | done | omega))
 ·refine ⟨⟨?_, ?_, ?_, ?_, ?_, ?_, ?_⟩, ⟨?_, ?_, ?_⟩⟩ <;> (dsimp only; (try simp only [if_true]); (first | done | omega))
theorem Z9d {a b : Int} {x : Ln} (h : LnIn a x) (pB : a <= b) : LnIn b x := by
 obtain ⟨a1, a2, a3, a4, a5, a6, a7⟩ := h
 exact ⟨⟨a1.1, Kde a1.2 pB⟩, ⟨a2.1, Kde a2.2 pB⟩, ⟨a3.1, Kde a3.2 pB⟩, ⟨a4.1, Kde a4.2 pB⟩, ⟨a5.1, Kde a5.2 pB⟩, ⟨a6.1, Kde a6.2 pB⟩, ⟨a7.1, Kde a7.2 pB⟩⟩
end
section
open Go.RowKit Go.Sort
abbrev Zl2 : Value := .string ⟨#[49, 48, 48, 50, 51]⟩
abbrev ZdO (vp : Value) : Value := .agg #[.int .u8 1, .int .u8 1, Zl2, vp]
abbrev ZkX (k : Pck) : Value := .agg #[.int .i64 k.pieces, .int .i64 k.grams, .int .i64 k.bundles, .int .i64 k.trays]
abbrev Zl3 (X : Man) (v : Value) : Value := .agg #[v, .int .i64 X.total.level, .int .i64 X.total.pieces, .int .i64 X.total.barred, .int .i64 X.total.grams, .int .i64 X.total.base, .int .i64 X.total.bar, .int .i64 X.total.saved, .int .i64 X.total.cents, .int .i64 X.buns, .int .i64 X.tras, .int .i64 X.cons]
structure Mk27 (n : Nat) (ps : List UInt8) (ls : List Lev) (l : List UInt16) : Prop where
 hp : HasPlan ls (Z04 l)
 ct : ∀ x ∈ ls, 0 <= x.cents /\ x.cents <= 255
section
variable {n : Nat} {ps : List UInt8} {ls : List Lev} {l : List UInt16}
theorem Mk27.cz (h : Mk27 n ps ls l) : ∀ p ∈ (Z04 l).ps, p.code.size <= maxLen := fun p hp => by have := Z0w ((Z1Q h.hp.mail).2 p hp); unfold maxLen; omega
theorem Mk27.fits (h : Mk27 n ps ls l) : ∀ x ∈ ls, Z0K x := Z1A h.hp.right
theorem Zf3 (n : Nat) (ps : List UInt8) (l : List UInt16) : ((Z1H n ps).rates[0]'(Za2 n ps)).cls = (Z04 l).cls := by rw [Zbh]; rfl
theorem Mk27.ok (h : Mk27 n ps ls l) : ∀ i, i < (Z04 l).ps.length -> (Z0B (Z1H n ps) ((Z1H n ps).rates[0]'(Za2 n ps)) (Z04 l) i).2 = 0 := fun i hi => by
 rw [Zbh]
 exact (ZiM (fun p hp => (Z2j l p hp).2) hi).1
theorem Z8l {K : Nat} {zs : List Int} (h : Z1j K zs = true) : ∀ x ∈ zs, 0 <= x /\ x < (K : Int) := fun x hx => by
 obtain ⟨i, hi, rfl⟩ := List.getElem_of_mem hx
 exact Z72 h i hi
theorem Mk27.post (h : Mk27 n ps ls l) {zs : List Int} (pA : zs.length = (Z04 l).ps.length) (hn : Z1j ls.length zs = true) {vr vz vl vp vn : Value} (W : World) (hT : RdTar W vr vz (Z1H n ps)) (hr : RdLevs W vl ls) (pC : RdPces W vp (Z04 l).ps) (hz : RdInts W vn zs) :
 Calls Tryz.prog 13 #[.agg #[vr, vz], vl, ZdO vp, vn] W fun e w' => ∃ g, e = .returned (.tuple #[.slice (some ⟨g, 0, none⟩) (Z04 l).ps.length (Z04 l).ps.length, .int .i64 0]) /\ Below W.1.size W w' /\ W.1.size <= g /\
  w'.ownsRow W.1.size 3 1 (.slice (some ⟨g, 0, none⟩) (Z04 l).ps.length (Z04 l).ps.length) (Z04 l).ps.length ((List.range (Z04 l).ps.length).map (fun i => Value.int .i64 (plN n ps ls (Z04 l) zs i).cents)) := by
 have := Z8e (Z8T n ps) (ZgV n ps h.ct) W hT hr h.fits h.hp.right pC h.hp.mail h.hp.rng.2.1 h.cz hz pA (Z8l hn) (Za2 n ps) (Zf3 n ps l) h.ok
 rw [Zbh] at this
 exact this
theorem Mk27.bases (h : Mk27 n ps ls l) {vr vz vp : Value} (W : World) (hT : RdTar W vr vz (Z1H n ps)) (pC : RdPces W vp (Z04 l).ps) :
 Calls Tryz.prog 35 #[.agg #[vr, vz], ZdO vp] W fun e w' => ∃ g, e = .returned (.tuple #[.slice (some ⟨g, 0, none⟩) (Z04 l).ps.length (Z04 l).ps.length, .int .i64 0]) /\ Below W.1.size W w' /\ W.1.size <= g /\
  w'.ownsRow W.1.size 3 1 (.slice (some ⟨g, 0, none⟩) (Z04 l).ps.length (Z04 l).ps.length) (Z04 l).ps.length ((List.range (Z04 l).ps.length).map (fun i => Value.int .i64 (Z0B (Z1H n ps) (Z1i ps n 0) (Z04 l) i).1)) := by
 have := Z9y (Z8T n ps) W hT pC h.hp.mail h.hp.rng.2.1 h.cz (Za2 n ps) (Zf3 n ps l) h.ok
 rw [Zbh] at this
 exact this
theorem Mk27.state (h : Mk27 n ps ls l) {zs : List Int} (pA : zs.length = (Z04 l).ps.length) (hn : Z1j ls.length zs = true) {vr vz vl vp vn vb vt vc : Value} {nb nt nc : Nat} (W : World) (hT : RdTar W vr vz (Z1H n ps)) (hr : RdLevs W vl ls) (pC : RdPces W vp (Z04 l).ps) (hz : RdInts W vn zs)
 (hb : ∃ a c, vb = .slice a nb c) (ht : ∃ a c, vt = .slice a nt c) (hc : ∃ a c, vc = .slice a nc c) (pD : nb <= 100000 /\ nt <= 100000 /\ nc <= 100000) :
 Calls Tryz.prog 28 #[.agg #[vr, vz], vl, ZdO vp, vn, .agg #[vb, vt, vc]] W fun e w' => ∃ v, e = .returned (.tuple #[Z6p (Z5x zs (plN n ps ls (Z04 l) zs) (Z04 l).ps.length ls.length nb nt nc) v, .int .i64 0]) /\ Below W.1.size W w' /\ OwnsLn w' W.1.size v (Z5x zs (plN n ps ls (Z04 l) zs) (Z04 l).ps.length ls.length nb nt nc).lines := by
 obtain ⟨ar, cr, rfl, _⟩ := id hT.r
 obtain ⟨az, cz, rfl, _⟩ := id hT.z
 have pL := Z0y h.hp.right
 have pQ := Zbh n ps
 exact Zcg (m := Z04 l) (ls := ls) (zs := zs) (bar := (Z2M n : Nat)) (B := fun i => (Z0B (Z1H n ps) (Z1i ps n 0) (Z04 l) i).1) (R := Z5o (Z1H n ps) (Z1i ps n 0) ls (Z04 l) zs) W pC hr hz ⟨_, _, _, rfl⟩ ⟨_, _, _, rfl⟩ hb ht hc h.hp.few ⟨pL.1, by omega⟩ pA (Z8l hn) pD
  (fun i hi => Z9d (Za7 (Z2j l) h.ct hi).1 (by decide))
  (fun W' hW => h.post pA hn W' (hT.below hW) (hr.below hW) (pC.below hW) (hz.below hW))
  (fun W' hW => h.bases W' (hT.below hW) (pC.below hW))
  (fun W' hW => by
   have := ZaV (vr := .slice ar (Z1H n ps).rates.length cr) (vz := .slice az (Z1H n ps).zones.length cz) (Z04 l).cls W' (hT.below hW) (Z8T n ps).rates.2 (Za2 n ps) (Zf3 n ps l) (fun i hi pM => absurd pM (Ka2 _))
   rw [Zbh] at this
   exact this)
end
noncomputable def Z5y (n : Nat) (ps : List UInt8) (ls : List Lev) (l : List UInt16) (zs : List Int) (L : Lod) : Man := Z5x zs (plN n ps ls (Z04 l) zs) (Z04 l).ps.length ls.length L.buns.length L.tras.length L.cons.length
noncomputable def ZbD (ls : List Lev) (l : List UInt16) (zs : List Int) (k : Pck) : Lod := ZfL k (Z04 l).ps zs (Z16 ls (Z07 (Z04 l).ps) ls.length)
theorem ZbC {ls : List Lev} {l : List UInt16} (h : HasPlan ls (Z04 l)) {zs : List Int} (pA : zs.length = (Z04 l).ps.length) (hn : Z1j ls.length zs = true) {k : Pck} (hk : Z7K k = true) (pE : ∀ p ∈ (Z04 l).ps, p.grams <= k.grams) : (ZbD ls l zs k).buns.length <= 100000 /\ (ZbD ls l zs k).tras.length <= 100000 /\ (ZbD ls l zs k).cons.length <= 100000 := by
 have pN := Zcu h pA hn hk pE
 have h1 := pN.lens
 have h2 := h.few
 unfold ZbD
 omega
def ZjU (n : Nat) (ps : List UInt8) (ls : List Lev) (l : List UInt16) (zs : List Int) (k : Pck) (M : Man) : Prop :=
 ∀ W vr vz v vp vn, RdTar W vr vz (Z1H n ps) -> RdLevs W v ls -> RdPces W vp (Z04 l).ps -> RdInts W vn zs -> Calls Tryz.prog 11 #[.agg #[vr, vz], v, ZdO vp, vn, ZkX k] W fun e w' => ∃ av cv, e = .returned (.tuple #[Zl3 M (.slice av M.lines.length cv), .int .i64 0]) /\ Below W.1.size W w' /\ OwnsLn w' W.1.size (.slice av M.lines.length cv) M.lines
theorem ZiB {n : Nat} {ps : List UInt8} {ls : List Lev} {l : List UInt16} (h : Mk27 n ps ls l) {zs : List Int} (pA : zs.length = (Z04 l).ps.length) (hn : Z1j ls.length zs = true) {k : Pck} (hA : Zb3 ls (Z04 l) zs k = 0) (hk : Z7K k = true) (pE : ∀ p ∈ (Z04 l).ps, p.grams <= k.grams) :
 ZjU n ps ls l zs k (Z5y n ps ls l zs (ZbD ls l zs k)) := by
 intro W vr vz v vp vn h1 h2 h3 h4
 obtain ⟨ar, cr, rfl, _⟩ := id h1.r
 obtain ⟨az, cz, rfl, _⟩ := id h1.z
 obtain ⟨al, cl, rfl, _⟩ := id h2
 obtain ⟨ap, cp, rfl, _⟩ := id h3
 obtain ⟨an, cn, rfl, _⟩ := id h4
 refine Calls.mono (ZfF (M := Z5y n ps ls l zs (ZbD ls l zs k)) (m := Z04 l) (k := k) (nb := (ZbD ls l zs k).buns.length) (nt := (ZbD ls l zs k).tras.length) (nc := (ZbD ls l zs k).cons.length) W ⟨_, _, _, rfl⟩ ⟨_, _, _, rfl⟩ ⟨_, _, _, rfl⟩ ⟨_, _, _, rfl⟩ ⟨_, _, _, rfl⟩ (fun W' hW => ?_) (fun W' ab cb at' ct ac cc hW => ?_)) ?_
 ·refine (Zbq h.hp (h2.below hW) (h3.below hW) (h4.below hW) pA hn hA hk pE rfl).mono ?_
  rintro e w' ⟨ab, cb, at', ct, ac, cc, rfl, hb, _⟩
  exact ⟨ab, cb, at', ct, ac, cc, rfl, hb⟩
 ·exact h.state pA hn W' (h1.below hW) (h2.below hW) (h3.below hW) (h4.below hW) ⟨_, _, rfl⟩ ⟨_, _, rfl⟩ ⟨_, _, rfl⟩ (ZbC h.hp pA hn hk pE)
 ·rintro e w' ⟨v, rfl, hb, ho⟩
  obtain ⟨ax, cx, rfl⟩ := Z0F ho
  exact ⟨ax, cx, rfl, hb, ho⟩
def ZkU (n : Nat) (ps : List UInt8) (args : Array Value) (w : World) : Prop :=
 ∀ W, Below w.1.size w W -> Calls Tryz.prog 9 args W fun e w' => ∃ ar cr az cz, e = .returned (.agg #[.slice ar (Z1H n ps).rates.length cr, .slice az (Z1H n ps).zones.length cz]) /\ Below W.1.size W w' /\ RdTar w' (.slice ar (Z1H n ps).rates.length cr) (.slice az (Z1H n ps).zones.length cz) (Z1H n ps)
theorem Zk1 {n : Nat} {ps : List UInt8} {vp : Value} {w : World} (hn : n < 4294967296) (hr : RdBytes w vp ps) (hl : ps.length <= maxLen) : ZkU n ps #[.int .u32 (n : Nat), vp] w := by
 intro W hW
 refine (ZdT n ps vp W hn (hr.below hW) hl).mono ?_
 rintro e w' ⟨a, ca, b, cb, rfl, hb, hT⟩
 have e1 : (Z1H n ps).rates.length = Z3k n := by simp [Z1H]
 have e2 : (Z1H n ps).zones.length = (Z0z n 9).length := rfl
 rw [e1, e2]
 exact ⟨a, ca, b, cb, rfl, hb, hT⟩
structure Keep (w : World) (n : Nat) (ps : List UInt8) (ls : List Lev) (np : Nat) (pcs : List Pce) (zs : List Int) (k : Pck) (T X gz : Nat) (ar az al ap : Option Addr) (cr cz cl cp : Nat) (W : World) : Prop where
 t : W.cell? ⟨T, 0, none⟩ = some (.slice ar (Z1H n ps).rates.length cr) /\ W.cell? ⟨T, 1, none⟩ = some (.slice az (Z1H n ps).zones.length cz)
 m : W.cell? ⟨X, 0, none⟩ = some (.int .u8 1) /\ W.cell? ⟨X, 1, none⟩ = some (.int .u8 1) /\ W.cell? ⟨X, 2, none⟩ = some (.string ⟨#[49, 48, 48, 50, 51]⟩) /\ W.cell? ⟨X, 3, none⟩ = some (.slice ap np cp)
 k : W.cell? ⟨X + 1, 0, none⟩ = some (.int .i64 k.pieces) /\ W.cell? ⟨X + 1, 1, none⟩ = some (.int .i64 k.grams) /\ W.cell? ⟨X + 1, 2, none⟩ = some (.int .i64 k.bundles) /\ W.cell? ⟨X + 1, 3, none⟩ = some (.int .i64 k.trays)
 lt : T < W.1.size /\ X < W.1.size /\ X + 1 < W.1.size /\ gz < W.1.size
 rt : RdTar W (.slice ar (Z1H n ps).rates.length cr) (.slice az (Z1H n ps).zones.length cz) (Z1H n ps)
 rl : RdLevs W (.slice al ls.length cl) ls
 rp : RdPces W (.slice ap np cp) pcs
 rz : IntsAt W gz zs
 tb : TabW W
 bw : Below w.1.size w W
theorem Keep.of {w w2 W2 w3 W4 : World} {n : Nat} {ps : List UInt8} {ls : List Lev} {np : Nat} {pcs : List Pce} {zs : List Int} {k : Pck} {gz B1 B2 : Nat} {ar az al ap : Option Addr} {cr cz cl cp : Nat} (ht : TabW w) (pG : Below w.1.size w w2) (hT : RdTar w2 (.slice ar (Z1H n ps).rates.length cr) (.slice az (Z1H n ps).zones.length cz) (Z1H n ps))
 (pF : W2 = w2.alloc (.cells #[.slice ar (Z1H n ps).rates.length cr, .slice az (Z1H n ps).zones.length cz] 29)) (pD : Below W2.1.size W2 w3) (hL : OwnsLv w3 B1 (.slice al ls.length cl) ls) (hP : OwnsP w3 B2 (.slice ap np cp) pcs) (hz : IntsAt w3 gz zs)
 (pO : W4 = (w3.alloc (.cells #[.int .u8 1, .int .u8 1, .string ⟨#[49, 48, 48, 50, 51]⟩, .slice ap np cp] 34)).alloc (.cells #[.int .i64 k.pieces, .int .i64 k.grams, .int .i64 k.bundles, .int .i64 k.trays] 37)) :
 (∀ W, Below W4.1.size W4 W -> Keep w n ps ls np pcs zs k w2.1.size w3.1.size gz ar az al ap cr cz cl cp W) /\ w2.1.size < w3.1.size := by
 have s2 : W2.1.size = w2.1.size + 1 := by rw [pF]; simp
 have t0 : W2.1[w2.1.size]? = some (.cells #[.slice ar (Z1H n ps).rates.length cr, .slice az (Z1H n ps).zones.length cz] 29 (0, 0)) := by rw [pF]; exact Z02 w2 _
 have b2 : Below w2.1.size w2 W2 := by rw [pF]; exact (Z9 _ w2).alloc (Z1 _) _
 obtain ⟨t1, t2, t3, t4⟩ := Z8M pO
 have s3 := pD.size
 have sz4 := t4.size
 have pP := hz.lt
 refine ⟨fun W hW => ?_, by omega⟩
 have sW := hW.size
 have c0 := (hW.block _ (by omega)).trans ((t4.block _ (by omega)).trans ((pD.block _ (by omega)).trans t0))
 have c1 := (hW.block _ (by omega)).trans t1
 have c2 := (hW.block _ (by omega)).trans t2
 have b3W : Below w3.1.size w3 W := Z01 t4 t4.size hW
 have b2W : Below w2.1.size w2 W := Z01 b2 b2.size (Z01 pD pD.size b3W)
 have bw : Below w.1.size w W := Z01 pG pG.size b2W
 exact ⟨⟨Kaa _ _ 0 _ _ _ c0, Kaa _ _ 1 _ _ _ c0⟩, Z0H c1, Z0H c2, ⟨by omega, by omega, by omega, by omega⟩, hT.below b2W, hL.reads.below b3W, (RdPces.of_owns hP).below b3W, (b3W.block _ pP).trans hz, ht.below bw, bw⟩
end
end Go.Proofs.YtlgajongmkhcnaaGreatDoor
