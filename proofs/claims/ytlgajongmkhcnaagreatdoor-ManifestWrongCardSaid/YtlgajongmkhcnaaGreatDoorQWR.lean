import Derived.Test.YtlgajongmkhcnaaGreatDoorQWH
import Derived.Test.YtlgajongmkhcnaaGreatDoorQWP
import Derived.Test.YtlgajongmkhcnaaGreatDoorQWC
set_option maxRecDepth 100000
set_option linter.unusedVariables false
set_option linter.unusedSimpArgs false
set_option maxHeartbeats 32000000

namespace Go.Proofs.YtlgajongmkhcnaaGreatDoor
open Go.RowKit Go.Sort
theorem Z8I : Z4z = Z83 ⟨[], Z4f 0, 0, 0, 0⟩ (.slice none 0 0) := rfl
theorem ZaV (W : World) : RdLns W (.slice none 0 0) [] := ⟨none, 0, rfl, fun h => absurd h (Kde 0)⟩
theorem ZdC {ls : List Lev} {m : Mai} {zs : List Int} {k : Pck} {E : Int} (hA : Z4V ls m zs k = E) (hE : E ≠ 0) (hf : ∀ l ∈ ls, Z0x l) (hl : ls.length <= 100000) (h8 : 0 <= m.cls /\ m.cls <= 255 /\ 0 <= m.ctr /\ m.ctr <= 255) (pL : m.origin.size <= maxLen) (pM : m.ps.length <= 100000) (pN : ∀ p ∈ m.ps, p.code.size <= maxLen) (pO : zs.length <= 1000000)
 {vr vz v vp vn : Value} {W : World} (pE : ∃ a n c, vr = .slice a n c) (pF : ∃ a n c, vz = .slice a n c) (h2 : RdLevs W v ls) (h3 : RdPces W vp m.ps) (h4 : RdInts W vn zs) :
 Calls Tryz.prog 11 #[.agg #[vr, vz], v, Z0N m vp, vn, Z1R k] W (fun e w' => e = .returned (.tuple #[Z4z, .int .i64 E]) /\ Below W.1.size W w') /\
 Calls Tryz.prog 14 #[.agg #[vr, vz], v, Z0N m vp, vn, Z1R k, Z6H, Z4z] W (fun e w' => e = .returned (.tuple #[.bool false, .int .i64 E]) /\ Below W.1.size W w') := by
 obtain ⟨al, cl, rfl, _⟩ := id h2
 obtain ⟨ap, cp, rfl, _⟩ := id h3
 obtain ⟨an, cn, rfl, _⟩ := id h4
 refine ⟨Z6L (m := m) (k := k) W pE pF ⟨_, _, _, rfl⟩ ⟨_, _, _, rfl⟩ ⟨_, _, _, rfl⟩ hE (fun W' hW => ?_), ?_⟩
 ·have := ZhN ls (.slice al ls.length cl) (.slice ap m.ps.length cp) (.slice an zs.length cn) m zs k W' (h2.below hW) hf hl (h3.below hW) h8 pL pM pN (h4.below hW) pO (by rw [hA]; exact hE)
  rw [hA] at this
  exact this
 ·rw [Z8I]
  refine Z5d (m := m) (k := k) W pE pF ⟨_, _, _, rfl⟩ ⟨_, _, _, rfl⟩ ⟨_, _, _, rfl⟩ ⟨none, 0, rfl⟩ ⟨none, 0, rfl⟩ ⟨none, 0, rfl⟩ (ZaV W) hE (fun W' hW => ?_)
  have := ZgW ls (.slice al ls.length cl) (.slice ap m.ps.length cp) (.slice an zs.length cn) Z6H m zs k W' (h2.below hW) hf hl (h3.below hW) h8 pL pM pN (h4.below hW) pO ⟨_, _, _, rfl⟩ (by rw [hA]; exact hE)
  rw [hA] at this
  exact this
theorem Z7h {ls : List Lev} {m : Mai} (h : HasPlan ls m) {v vp vz : Value} {zs : List Int} {k : Pck} {W : World} (hr : RdLevs W v ls) (pS : RdPces W vp m.ps) (hz : RdInts W vz zs) (pI : zs.length = m.ps.length) (hn : Z1K ls.length zs = true) (hA : Z4V ls m zs k = 0) (h1 : 1 <= m.ps.length) :
 Calls Tryz.prog 37 #[v, Z0N m vp, vz, Z1R k, Z6H] W fun e w' => e = .returned (.tuple #[.bool false, .int .i64 0]) /\ Below W.1.size W w' := by
 have pT : RdLod W (.slice none 0 0) (.slice none 0 0) (.slice none 0 0) ⟨[], [], []⟩ := ⟨⟨none, 0, rfl, fun h => absurd h (Kde 0)⟩, ⟨none, 0, rfl, fun h => absurd h (Kde 0)⟩, ⟨none, 0, rfl, fun h => absurd h (Kde 0)⟩⟩
 refine Calls.mono (Zcn h v vp vz _ _ _ zs k ⟨[], [], []⟩ W hr pS hz pI hn hA pT (by constructor <;> simp) (fun b hb => by cases hb)) ?_
 rintro e w' ⟨u, rfl, hb, r, rfl, hr⟩
 cases r
 ·exact ⟨rfl, hb⟩
 ·have hk := (hr.1 rfl).buns.all
  have : (0 : Nat) = m.ps.length := hk
  omega
theorem Zar {ls : List Lev} {m : Mai} {zs : List Int} {k : Pck} {E : Int} (h : HasPlan ls m) (pI : zs.length = m.ps.length) (hn : Z1K ls.length zs = true) (hA : Z4V ls m zs k = 0) (hk : Z5R k = true) (pH : ∀ p ∈ m.ps, p.grams <= k.grams) (h1 : 1 <= m.ps.length) (hE : E ≠ 0)
 {vr vz v vp vn : Value} {W : World} (pE : ∃ a n c, vr = .slice a n c) (pF : ∃ a n c, vz = .slice a n c) (h2 : RdLevs W v ls) (h3 : RdPces W vp m.ps) (h4 : RdInts W vn zs)
 (pP : ∀ W', Below W.1.size W W' -> Calls Tryz.prog 13 #[.agg #[vr, vz], v, Z0N m vp, vn] W' fun e w' => e = .returned (.tuple #[.slice none 0 0, .int .i64 E]) /\ Below W'.1.size W' w') :
 Calls Tryz.prog 11 #[.agg #[vr, vz], v, Z0N m vp, vn, Z1R k] W (fun e w' => e = .returned (.tuple #[Z4z, .int .i64 E]) /\ Below W.1.size W w') /\
 Calls Tryz.prog 14 #[.agg #[vr, vz], v, Z0N m vp, vn, Z1R k, Z6H, Z4z] W (fun e w' => e = .returned (.tuple #[.bool false, .int .i64 E]) /\ Below W.1.size W w') := by
 obtain ⟨al, cl, rfl, _⟩ := id h2
 obtain ⟨ap, cp, rfl, _⟩ := id h3
 obtain ⟨an, cn, rfl, _⟩ := id h4
 refine ⟨Z9K (m := m) (k := k) (nb := (Zdc k m.ps zs (Z0T ls (Z06 m.ps) ls.length)).buns.length) (nt := (Zdc k m.ps zs (Z0T ls (Z06 m.ps) ls.length)).tras.length) (nc := (Zdc k m.ps zs (Z0T ls (Z06 m.ps) ls.length)).cons.length) W pE pF ⟨_, _, _, rfl⟩ ⟨_, _, _, rfl⟩ ⟨_, _, _, rfl⟩ (fun W' hW => ?_) (fun W' ab cb at' ct ac cc hW => ?_), ?_⟩
 ·refine (ZaN h (h2.below hW) (h3.below hW) (h4.below hW) pI hn hA hk pH rfl).mono ?_
  rintro e w' ⟨ab, cb, at', ct, ac, cc, rfl, hb, _⟩
  exact ⟨ab, cb, at', ct, ac, cc, rfl, hb⟩
 ·exact Z6l W' pE pF ⟨_, _, _, rfl⟩ ⟨_, _, _, rfl⟩ ⟨_, _, _, rfl⟩ ⟨_, _, _, rfl⟩ ⟨_, _, _, rfl⟩ ⟨_, _, _, rfl⟩ hE (fun W2 pC => pP W2 (Z01 hW hW.size pC))
 ·rw [Z8I]
  refine Z2K (m := m) (k := k) (b := false) W pE pF ⟨_, _, _, rfl⟩ ⟨_, _, _, rfl⟩ ⟨_, _, _, rfl⟩ ⟨none, 0, rfl⟩ ⟨none, 0, rfl⟩ ⟨none, 0, rfl⟩ (ZaV W) hE (fun W' hW => Z7h h (h2.below hW) (h3.below hW) (h4.below hW) pI hn hA h1) (fun W' hW => ?_)
  exact Z6l W' pE pF ⟨_, _, _, rfl⟩ ⟨_, _, _, rfl⟩ ⟨_, _, _, rfl⟩ ⟨_, _, _, rfl⟩ ⟨_, _, _, rfl⟩ ⟨_, _, _, rfl⟩ hE (fun W2 pC => pP W2 (Z01 hW hW.size pC))
def Z3Z (g : Int) : List Pce -> List Pce
 | [] => []
 | p :: r => { p with grams := g } :: r
def setC (c : ByteArray) : List Pce -> List Pce
 | [] => []
 | p :: r => { p with code := c } :: r
theorem Z5X (g : Int) (ps : List Pce) : (Z3Z g ps).length = ps.length := by cases ps <;> rfl
theorem ZfZ (c : ByteArray) (ps : List Pce) : (setC c ps).length = ps.length := by cases ps <;> rfl
theorem Z55 (g : Int) (ps : List Pce) : Z06 (Z3Z g ps) = Z06 ps := by cases ps <;> rfl
theorem ZcI {g : Int} {ps : List Pce} {P : Int -> Prop} (hg : P g) (h : ∀ p ∈ ps, P p.grams) : ∀ p ∈ Z3Z g ps, P p.grams := by
 cases ps with
 | nil => exact fun p hp => by cases hp
 | cons q r =>
  intro p hp
  rcases Kbf.1 hp with rfl | hp
  ·exact hg
  ·exact h p (Kaj _ hp)
theorem ZbC {ls : List Lev} {m : Mai} (h : HasPlan ls m) {c g : Int} (hc : 1 <= c /\ c <= 255) (hg : 1 <= g /\ g <= 50000) : HasPlan ls ⟨c, m.ctr, m.origin, Z3Z g m.ps⟩ := by
 refine ⟨h.right, ?_, ⟨by show 0 <= c; omega, hc.2, h.rng.2.2⟩, h.org, fun l hl x hx => h.pre l hl x (by rw [<- Z55 g]; exact hx)⟩
 have hm := h.mail
 unfold Z1r at hm ⊢
 simp only [ZF, Kab] at hm ⊢
 obtain ⟨a, b, c', e⟩ := hm
 refine ⟨⟨hc.1, a.2⟩, b, by rw [Z5X]; exact c', ?_⟩
 cases hq : m.ps with
 | nil => rfl
 | cons p r =>
  rw [hq] at e
  unfold Z3Z
  unfold Zam pcB at e ⊢
  simp only [ZF, Kab] at e ⊢
  exact ⟨⟨e.1.1, e.1.2.1, hg⟩, e.2⟩
section
variable {n : Nat} {ls : List Lev} {l : List UInt16} {k : Pck} {vr vz v vp vn : Value} {W : World}
abbrev wrP (vr vz v : Value) (m : Mai) (vp vn : Value) (k : Pck) (a b : Int) (W : World) : Prop :=
 Calls Tryz.prog 11 #[.agg #[vr, vz], v, Z0N m vp, vn, Z1R k] W (fun e w' => e = .returned (.tuple #[Z4z, .int .i64 a]) /\ Below W.1.size W w') /\
 Calls Tryz.prog 14 #[.agg #[vr, vz], v, Z0N m vp, vn, Z1R k, Z6H, Z4z] W (fun e w' => e = .returned (.tuple #[.bool false, .int .i64 b]) /\ Below W.1.size W w')
theorem Zas {m m' : Mai} (h : HasPlan ls m') (hc : Z06 m'.ps = Z06 m.ps) {k : Pck} (hk : Z5R k = true) : Z4V ls m' (Z1o ls m) k = 0 := by
 have e : Z1o ls m = Z1o ls m' := by unfold Z1o; rw [hc]
 rw [e]
 exact Z9y h hk
theorem Za5 (h : Mk27 n [] ls l) : FitT 300 31 255 (Z3P n []) ls := ZfT n [] h.ct
theorem Z2W {m : Mai} (h : Z1r m = true) : ∀ p ∈ m.ps, p.code.size <= maxLen := fun p hp => by have := Z0i ((Z1w h).2 p hp); unfold maxLen; omega
theorem wr0 (h : Mk27 n [] ls l) (h1 : RdTar W vr vz (Z3P n [])) (h2 : RdLevs W v ls) (h3 : RdPces W vp (Z05 l).ps) (h4 : RdInts W vn (Z1o ls (Z05 l))) : wrP vr vz v (Z05 l) vp vn ⟨k.pieces, 0, k.bundles, k.trays⟩ 2 2 W := by
 have pQ := h.hp.few
 have pK := Z0y h.hp.right
 have pB := Z1D ls (Z05 l)
 obtain ⟨ar, cr, rfl, _⟩ := id h1.r
 obtain ⟨az, cz, rfl, _⟩ := id h1.z
 refine ZdC ?_ (by decide) h.fits (by omega) h.hp.rng h.hp.org (by omega) h.cz (by omega) ⟨_, _, _, rfl⟩ ⟨_, _, _, rfl⟩ h2 h3 h4
 unfold Z4V
 rw [h.hp.valid, if_pos rfl, if_neg (fun hh => by
  have := hh.2
  unfold Z5R at this
  simp at this)]
theorem ZdD {g : Int} (h : Mk27 n [] ls l) (hg : 1 <= g /\ g <= 50000) (h1 : RdTar W vr vz (Z3P n [])) (h2 : RdLevs W v ls) (h3 : RdPces W vp (Z3Z g (Z05 l).ps)) (h4 : RdInts W vn (Z1o ls (Z05 l))) :
 ∀ W', Below W.1.size W W' -> Calls Tryz.prog 13 #[.agg #[vr, vz], v, Z0N ⟨9, 1, o24, Z3Z g (Z05 l).ps⟩ vp, vn] W' fun e w' => e = .returned (.tuple #[.slice none 0 0, .int .i64 6]) /\ Below W'.1.size W' w' := fun W' hW => by
 have h9 := ZbC h.hp (c := 9) (g := g) (by decide) hg
 have pB := Z1D ls (Z05 l)
 refine Z6w (m := ⟨9, 1, o24, Z3Z g (Z05 l).ps⟩) (Z6h n []) (Za5 h) W' (h1.below hW) (h2.below hW) h.fits h.hp.right (h3.below hW) h9.mail h9.rng.2.1 (Z2W h9.mail) (h4.below hW) (by rw [pB]; exact (Z5X _ _).symm) (Z7Y h.hp.nums) (by decide) (fun W2 pC => ?_)
 refine Zdv (m := ⟨9, 1, o24, Z3Z g (Z05 l).ps⟩) (Z6h n []) W2 ((h1.below hW).below pC) ((h3.below hW).below pC) h9.mail h9.rng.2.1 (Z2W h9.mail) (fun r hr e => ?_)
 obtain ⟨c, hc, rfl⟩ := Kae.1 hr
 have hc' := Ka8.1 hc
 have pW := Z4p n
 have e' : ((c + 1 : Nat) : Int) = 9 := e
 omega
theorem wr1 (h : Mk27 n [] ls l) (hk : Z5R k = true) (pU : k.grams = 20) (pA : 1 <= (Z05 l).ps.length) (h1 : RdTar W vr vz (Z3P n [])) (h2 : RdLevs W v ls) (h3 : RdPces W vp (Z3Z 21 (Z05 l).ps)) (h4 : RdInts W vn (Z1o ls (Z05 l))) : wrP vr vz v ⟨9, 1, o24, Z3Z 21 (Z05 l).ps⟩ vp vn k 3 6 W := by
 have h9 := ZbC h.hp (c := 9) (g := 21) (by decide) (by decide)
 have pQ := h.hp.few
 have pK := Z0y h.hp.right
 have pB := Z1D ls (Z05 l)
 have hA : Z4V ls ⟨9, 1, o24, Z3Z 21 (Z05 l).ps⟩ (Z1o ls (Z05 l)) k = 0 := Zas h9 (Z55 _ _) hk
 have pJ := ZdD h (g := 21) (by decide) h1 h2 h3 h4
 have pG := Z5X 21 (Z05 l).ps
 obtain ⟨ar, cr, rfl, _⟩ := id h1.r
 obtain ⟨az, cz, rfl, _⟩ := id h1.z
 obtain ⟨al, cl, rfl, _⟩ := id h2
 obtain ⟨ap, cp, rfl, _⟩ := id h3
 obtain ⟨an, cn, rfl, _⟩ := id h4
 refine ⟨Z6L (m := ⟨9, 1, o24, Z3Z 21 (Z05 l).ps⟩) (k := k) W ⟨_, _, _, rfl⟩ ⟨_, _, _, rfl⟩ ⟨_, _, _, rfl⟩ ⟨_, _, _, rfl⟩ ⟨_, _, _, rfl⟩ (by decide) (fun W' hW => ?_), ?_⟩
 ·refine Zew ls (.slice al ls.length cl) (.slice ap (Z3Z 21 (Z05 l).ps).length cp) (.slice an (Z1o ls (Z05 l)).length cn) ⟨9, 1, o24, Z3Z 21 (Z05 l).ps⟩ (Z1o ls (Z05 l)) k W' (h2.below hW) h.fits (by omega) (h3.below hW) h9.rng h9.org (by show (Z3Z 21 (Z05 l).ps).length <= _; omega) (Z2W h9.mail) (h4.below hW) (by omega) hA ?_
  obtain ⟨p, r, pD⟩ : ∃ p r, (Z05 l).ps = p :: r := by
   cases hq : (Z05 l).ps with
   | nil => rw [hq] at pA; simp at pA
   | cons p r => exact ⟨p, r, rfl⟩
  refine ⟨{ p with grams := 21 }, ?_, by rw [pU]; show (20 : Int) < 21; decide⟩
  show _ ∈ Z3Z 21 (Z05 l).ps
  rw [pD]
  exact Kaf
 ·rw [Z8I]
  refine Z2K (m := ⟨9, 1, o24, Z3Z 21 (Z05 l).ps⟩) (k := k) (b := false) W ⟨_, _, _, rfl⟩ ⟨_, _, _, rfl⟩ ⟨_, _, _, rfl⟩ ⟨_, _, _, rfl⟩ ⟨_, _, _, rfl⟩ ⟨none, 0, rfl⟩ ⟨none, 0, rfl⟩ ⟨none, 0, rfl⟩ (ZaV W) (by decide) (fun W' hW => Z7h h9 (h2.below hW) (h3.below hW) (h4.below hW) (by rw [pB]; exact pG.symm) h.hp.nums hA (by show 1 <= (Z3Z 21 (Z05 l).ps).length; omega)) (fun W' hW => ?_)
  exact Z6l W' ⟨_, _, _, rfl⟩ ⟨_, _, _, rfl⟩ ⟨_, _, _, rfl⟩ ⟨_, _, _, rfl⟩ ⟨_, _, _, rfl⟩ ⟨_, _, _, rfl⟩ ⟨_, _, _, rfl⟩ ⟨_, _, _, rfl⟩ (by decide) (fun W2 pC => pJ W2 (Z01 hW hW.size pC))
theorem wr2 (h : Mk27 n [] ls l) (hk : Z5R k = true) (pH : ∀ p ∈ (Z05 l).ps, p.grams <= k.grams) (pA : 1 <= (Z05 l).ps.length) (h1 : RdTar W vr vz (Z3P n [])) (h2 : RdLevs W v ls) (h3 : RdPces W vp (Z05 l).ps) (h4 : RdInts W vn (Z1o ls (Z05 l))) : wrP vr vz v ⟨9, 1, o24, (Z05 l).ps⟩ vp vn k 6 6 W := by
 obtain ⟨p, r, pD⟩ : ∃ p r, (Z05 l).ps = p :: r := by
  cases hq : (Z05 l).ps with
  | nil => rw [hq] at pA; simp at pA
  | cons p r => exact ⟨p, r, rfl⟩
 have pR : Z3Z p.grams (Z05 l).ps = (Z05 l).ps := by rw [pD]; rfl
 have hg := Z6A l p (by rw [pD]; exact Kaf)
 have h9 := ZbC h.hp (c := 9) (g := p.grams) (by decide) ⟨hg.1, by omega⟩
 have pJ := ZdD h (g := p.grams) ⟨hg.1, by omega⟩ h1 h2 (by rw [pR]; exact h3) h4
 rw [pR] at h9 pJ
 have pB := Z1D ls (Z05 l)
 have hA : Z4V ls ⟨9, 1, o24, (Z05 l).ps⟩ (Z1o ls (Z05 l)) k = 0 := Zas h9 rfl hk
 obtain ⟨ar, cr, rfl, _⟩ := id h1.r
 obtain ⟨az, cz, rfl, _⟩ := id h1.z
 exact Zar (m := ⟨9, 1, o24, (Z05 l).ps⟩) h9 pB h.hp.nums hA hk pH pA (by decide) ⟨_, _, _, rfl⟩ ⟨_, _, _, rfl⟩ h2 h3 h4 pJ
theorem wr3 (h : Mk27 n [] ls l) (hk : Z5R k = true) (pH : ∀ p ∈ (Z05 l).ps, p.grams <= k.grams) (pA : 1 <= (Z05 l).ps.length) (h1 : RdRates W vr (Z3P n []).rates) (h2 : RdLevs W v ls) (h3 : RdPces W vp (Z05 l).ps) (h4 : RdInts W vn (Z1o ls (Z05 l))) : wrP vr (.slice none 0 0) v (Z05 l) vp vn k 2 2 W := by
 have pB := Z1D ls (Z05 l)
 obtain ⟨ar, cr, rfl, _⟩ := id h1
 obtain ⟨al, cl, rfl, _⟩ := id h2
 obtain ⟨ap, cp, rfl, _⟩ := id h3
 obtain ⟨an, cn, rfl, _⟩ := id h4
 exact Zar h.hp pB h.hp.nums (Z9y h.hp hk) hk pH pA (by decide) ⟨_, _, _, rfl⟩ ⟨_, _, _, rfl⟩ h2 h3 h4 (fun W' hW => ZaG (T := Z3P n []) (Z6h n []).rates W' (h1.below hW) ⟨_, _, _, rfl⟩ ⟨_, _, _, rfl⟩ ⟨_, _, _, rfl⟩)
theorem wr4 (h : Mk27 n [] ls l) (h5 : ∀ x ∈ ls.take 1, x.pre = 5) (pA : 1 <= (Z05 l).ps.length) (h1 : RdRates W vr (Z3P n []).rates) (h2 : RdLevs W v ls) (h3 : RdPces W vp (setC ⟨#[49]⟩ (Z05 l).ps)) (h4 : RdInts W vn (Z1o ls (Z05 l))) : wrP vr (.slice none 0 0) v ⟨1, 1, o24, setC ⟨#[49]⟩ (Z05 l).ps⟩ vp vn k 6 6 W := by
 have pQ := h.hp.few
 have pK := Z0y h.hp.right
 have pB := Z1D ls (Z05 l)
 have pG := ZfZ ⟨#[49]⟩ (Z05 l).ps
 obtain ⟨p, r, pD⟩ : ∃ p r, (Z05 l).ps = p :: r := by
  cases hq : (Z05 l).ps with
  | nil => rw [hq] at pA; simp at pA
  | cons p r => exact ⟨p, r, rfl⟩
 have hm : Z1r ⟨1, 1, o24, setC ⟨#[49]⟩ (Z05 l).ps⟩ = true := by
  have hm := h.hp.mail
  unfold Z1r at hm ⊢
  simp only [ZF, Kab] at hm ⊢
  obtain ⟨a, b, c, e⟩ := hm
  refine ⟨by decide, b, by rw [pG]; exact c, ?_⟩
  rw [pD] at e ⊢
  unfold setC
  unfold Zam pcB at e ⊢
  simp only [ZF, Kab] at e ⊢
  exact ⟨⟨e.1.1, (by kernel_rfl), e.1.2.2⟩, e.2⟩
 obtain ⟨ar, cr, rfl, _⟩ := id h1
 refine ZdC (m := ⟨1, 1, o24, setC ⟨#[49]⟩ (Z05 l).ps⟩) ?_ (by decide) h.fits (by omega) h.hp.rng h.hp.org (by show (setC ⟨#[49]⟩ (Z05 l).ps).length <= _; omega) (Z2W hm) (by omega) ⟨_, _, _, rfl⟩ ⟨_, _, _, rfl⟩ h2 h3 h4
 have hv : Z1I ls ⟨1, 1, o24, setC ⟨#[49]⟩ (Z05 l).ps⟩ (Z1o ls (Z05 l)) = (false, 6) := by
  unfold Z1I
  rw [if_pos ⟨h.hp.right, hm, by rw [pB]; exact pG.symm, h.hp.nums⟩, if_pos]
  rw [Kbp]
  refine ⟨⟨#[49]⟩, ?_, ?_⟩
  ·show _ ∈ Z06 (setC ⟨#[49]⟩ (Z05 l).ps)
   rw [pD]
   exact Kaf
  ·obtain ⟨l0, rr, rfl⟩ : ∃ l0 r, ls = l0 :: r := by
    cases ls with
    | nil => simp at pK
    | cons l0 r => exact ⟨l0, r, rfl⟩
   have := h5 l0 (by simp)
   show decide (((⟨#[49]⟩ : ByteArray).size : Int) < l0.pre) = true
   rw [this]
   decide
 unfold Z4V
 rw [hv, if_neg (by decide)]
theorem wr5 (h : Mk27 n [] ls l) (hk : Z5R ⟨k.pieces, 50000, k.bundles, k.trays⟩ = true) (pA : 1 <= (Z05 l).ps.length) (h1 : RdTar W vr vz (Z3P n [])) (h2 : RdLevs W v ls) (h3 : RdPces W vp (Z3Z 50000 (Z05 l).ps)) (h4 : RdInts W vn (Z1o ls (Z05 l))) : wrP vr vz v ⟨1, 1, o24, Z3Z 50000 (Z05 l).ps⟩ vp vn ⟨k.pieces, 50000, k.bundles, k.trays⟩ 3 3 W := by
 have h9 := ZbC h.hp (c := 1) (g := 50000) (by decide) (by decide)
 have pB := Z1D ls (Z05 l)
 have pG := Z5X 50000 (Z05 l).ps
 have hA : Z4V ls ⟨1, 1, o24, Z3Z 50000 (Z05 l).ps⟩ (Z1o ls (Z05 l)) ⟨k.pieces, 50000, k.bundles, k.trays⟩ = 0 := Zas h9 (Z55 _ _) hk
 obtain ⟨p, r, pD⟩ : ∃ p r, (Z05 l).ps = p :: r := by
  cases hq : (Z05 l).ps with
  | nil => rw [hq] at pA; simp at pA
  | cons p r => exact ⟨p, r, rfl⟩
 obtain ⟨ar, cr, rfl, _⟩ := id h1.r
 obtain ⟨az, cz, rfl, _⟩ := id h1.z
 refine Zar (m := ⟨1, 1, o24, Z3Z 50000 (Z05 l).ps⟩) h9 (by rw [pB]; exact pG.symm) h.hp.nums hA hk (ZcI (P := fun g => g <= 50000) (by decide) (fun p hp => by have := Z6A l p hp; omega)) (by show 1 <= (Z3Z 50000 (Z05 l).ps).length; omega) (by decide) ⟨_, _, _, rfl⟩ ⟨_, _, _, rfl⟩ h2 h3 h4 (fun W' hW => ?_)
 refine Z6w (m := ⟨1, 1, o24, Z3Z 50000 (Z05 l).ps⟩) (Z6h n []) (Za5 h) W' (h1.below hW) (h2.below hW) h.fits h.hp.right (h3.below hW) h9.mail h9.rng.2.1 (Z2W h9.mail) (h4.below hW) (by rw [pB]; exact pG.symm) (Z7Y h.hp.nums) (by decide) (fun W2 pC => ?_)
 refine Zdw (m := ⟨1, 1, o24, Z3Z 50000 (Z05 l).ps⟩) (Z6h n []) W2 ((h1.below hW).below pC) ((h3.below hW).below pC) h9.mail h9.rng.2.1 (Z2W h9.mail) (ZhG n []) (ZiJ n [] l) (by show 0 < (Z3Z 50000 (Z05 l).ps).length; omega) ?_
 rw [ZiK, pD]
 have pV : stepOf (Z2i [] n 0).steps 50000 = -1 := Z8P (fun i hi => by
  have hi' : i < Z3S n := by rw [ZaF] at hi; exact hi
  have pX := Z6k n
  have e : (Z2i [] n 0).steps[i] = Z51 [] (Z23 n) 0 i := by simp [Z2i]
  rw [e]
  exact Kad (by show ¬ (50000 : Int) <= ((20 + 30 * i : Nat) : Int); omega))
 show Z3U (Z2i [] n 0) _ 50000 = (0, 3)
 unfold Z3U
 rw [pV, if_pos (by decide)]
end
end Go.Proofs.YtlgajongmkhcnaaGreatDoor
