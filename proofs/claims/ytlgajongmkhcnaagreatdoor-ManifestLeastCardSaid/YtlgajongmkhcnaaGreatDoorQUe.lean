import Derived.Test.YtlgajongmkhcnaaGreatDoorQU7
import Derived.Test.YtlgajongmkhcnaaGreatDoorQU5
import Derived.Test.YtlgajongmkhcnaaGreatDoorQUF
import Derived.Test.YtlgajongmkhcnaaGreatDoorQUD
import Derived.Test.YtlgajongmkhcnaaGreatDoorQUC
import Derived.Test.YtlgajongmkhcnaaGreatDoorQUE
import Derived.Test.YtlgajongmkhcnaaGreatDoorQUG
import Derived.Test.YtlgajongmkhcnaaGreatDoorQUK
import Derived.Test.YtlgajongmkhcnaaGreatDoorQUP
import Derived.Test.YtlgajongmkhcnaaGreatDoorQUN
set_option maxRecDepth 100000
set_option linter.unusedVariables false
set_option linter.unusedSimpArgs false
set_option maxHeartbeats 32000000
namespace Go.Proofs.YtlgajongmkhcnaaGreatDoor
section
end
section
open Go.RowKit Go.Sort
def ZlY (ls : List Lev) (z : Int) : Int := (ls.getD z.toNat ⟨⟨#[]⟩, 0, [], 0, 0⟩).cents
def Zla (ls : List Lev) (zs : List Int) (k : Nat) : Int := ((zs.take k).map (ZlY ls)).sum
end
section
end
section
end
section
end
section
end
section
end
section
end
section
end
section
end
section
end
section
variable {ls : List (Int × Int)} {gs : List PGrp} {n : Nat} {f : Nat -> Int}
end
section
variable {ls : List (Int × Int)} {gs : List PGrp} {n : Nat}
theorem Zm9 (hF : Forest2 ls gs n) (hp : ∀ g, g < gs.length -> PassOk ls gs g) : ∀ g, g < gs.length -> Z67 ls (Z6T ls gs n) (Z0c gs g) = ent (Z17 ls gs g) (pN ls gs g) := by
 intro g
 induction g using Nat.strongRecOn with
 | ind g ih =>
  intro hg
  have hv := (Z2V hF.toForest hg (hp g hg)).1.val
  have pR : Z67 ls (Z6T ls gs n) (Z0c gs g) = ((Z0c gs g).items.map (fun i => if Z6T ls gs n i <= (Z0c gs g).lvl - 1 then Z3Z ls (Z6T ls gs n i) else 0)).sum + (takeN (Z6T ls gs n) (Z0c gs g) : Int) * (Z2L ls gs g).2 := by
   unfold Z67 takeN; rw [Zjh]; exact Zdt ls _ _ _
  rw [hv, pR, (Zbk hF hp hg).1]
  congr 1
  unfold sN
  by_cases h0 : (Z0c gs g).lvl = 0
  ·rw [if_pos h0]
   have : (Z0c gs g).items.map (fun i => if Z6T ls gs n i <= (Z0c gs g).lvl - 1 then Z3Z ls (Z6T ls gs n i) else 0) = (Z0c gs g).items.map (fun _ => (0 : Int)) := Kbg (fun i hi => by
    have := (Z93 hF hg hi).2.2.1
    rw [if_neg (by omega)])
   rw [this]
   generalize (Z0c gs g).items = l
   induction l with
   | nil => rfl
   | cons x r ih => simpa using ih
  ·rw [if_neg h0]
   have pS : 0 < (Z0c gs g).lvl := by have := (hF.lvl g hg).1; omega
   rw [<- Zhw ((hF.parts g hg pS).1.map _), ZbT]
   congr 1
   refine Kbg (fun h hh => ?_)
   have hb := hF.below g hg h hh
   have hs := hF.sub g hg h hh
   rw [<- ih h hb (by omega)]
   unfold Z67
   rw [show (Z0c gs g).lvl - 1 = (Z0c gs h).lvl by omega]
end
section
variable {ls : List (Int × Int)} {gs : List PGrp} {n : Nat}
theorem Zmr (hF : Forest3 ls gs n) {p : Int -> Int} (hp : PlanOk ls gs p) {g : Nat} (hg : g < gs.length) (hl : (Z0c gs g).lvl = (ls.length : Int) - 1) : Z67 ls p (Z0c gs g) <= Z67 ls (Z6T ls gs n) (Z0c gs g) := by
 rw [Zm9 hF.toForest2 (Zdb hF) g hg]
 have hb := ZdC hF.toForest hp g hg
 have h0 : Z3o p (Z0c gs g) = 0 := by
  unfold Z3o
  rw [List.countP_eq_zero]
  intro i hi
  have := (hp.num g hg i hi).2
  simp
  omega
 have h1 : pN ls gs g = 0 := by
  rw [<- (Zbk hF.toForest2 (Zdb hF) hg).2]
  unfold Z3o
  rw [List.countP_eq_zero]
  intro i hi
  have := ((Zct hF).num g hg i hi).2
  simp
  omega
 rw [h0] at hb
 rw [h1]
 exact hb
def Zmy (ls : List (Int × Int)) (gs : List PGrp) : List Nat := (List.range gs.length).filter (fun g => decide ((Z0c gs g).lvl = (ls.length : Int) - 1))
theorem Zmn (hF : Forest3 ls gs n) : ((Zmy ls gs).flatMap (fun g => (Z0c gs g).items)).Perm ((List.range n).map Int.ofNat) := by
 have pT : ((Zmy ls gs).flatMap (fun g => (Z0c gs g).items)).Nodup := by
  refine Z53 (List.Nodup.sublist List.filter_sublist List.nodup_range) (fun g hg => ?_) (fun g hg g' hg' i hi hi' => ?_)
  ·exact hF.nodup g (Ka8.1 (Kbh.1 hg).1)
  ·have a := Kbh.1 hg
   have b := Kbh.1 hg'
   have e1 := of_decide_eq_true a.2
   have e2 := of_decide_eq_true b.2
   exact hF.alone g (Ka8.1 a.1) g' (Ka8.1 b.1) (by rw [e1, e2]) i hi hi'
 have pU : ((List.range n).map Int.ofNat).Nodup := by
  rw [List.nodup_iff_pairwise_ne, Kbt]
  exact List.nodup_range.imp (fun h e => h (Int.ofNat.inj e))
 rw [Kch pT pU]
 intro i
 constructor
 ·intro h
  obtain ⟨g, hg, hi⟩ := Ka5.1 h
  have hr := hF.range g (Ka8.1 (Kbh.1 hg).1) i hi
  exact Kae.2 ⟨i.toNat, Ka8.2 (by omega), by simp; omega⟩
 ·intro h
  obtain ⟨k, hk, rfl⟩ := Kae.1 h
  have hk' := Ka8.1 hk
  obtain ⟨g, hg, hl, hi⟩ := hF.cover (Int.ofNat k) (by simp) (by simp; omega)
  exact Ka5.2 ⟨g, Kbh.2 ⟨Ka8.2 hg, Kac hl⟩, hi⟩
def ZlA (ls : List (Int × Int)) (p : Int -> Int) (n : Nat) : Int := (((List.range n).map Int.ofNat).map (fun i => Z3Z ls (p i))).sum
theorem Zlz (hF : Forest3 ls gs n) {p : Int -> Int} (hp : PlanOk ls gs p) : ZlA ls p n = ((Zmy ls gs).map (fun g => Z67 ls p (Z0c gs g))).sum := by
 unfold ZlA
 rw [<- Zhw ((Zmn hF).map _), ZbT]
 congr 1
 refine Kbg (fun g hg => ?_)
 have a := Kbh.1 hg
 have e1 := of_decide_eq_true a.2
 unfold Z67
 congr 1
 refine Kbg (fun i hi => ?_)
 have := (hp.num g (Ka8.1 a.1) i hi).2
 rw [if_pos (by omega)]
theorem Zm8 (hF : Forest3 ls gs n) {p : Int -> Int} (hp : PlanOk ls gs p) : ZlA ls p n <= ZlA ls (Z6T ls gs n) n := by
 rw [Zlz hF hp, Zlz hF (Zct hF)]
 have : ∀ l : List Nat, (∀ g ∈ l, g ∈ Zmy ls gs) -> (l.map (fun g => Z67 ls p (Z0c gs g))).sum <= (l.map (fun g => Z67 ls (Z6T ls gs n) (Z0c gs g))).sum := fun l => by
  induction l with
  | nil => intro _; exact Kbi _
  | cons g r ih =>
   intro h
   have a := Kbh.1 (h g Kaf)
   have := Zmr hF hp (Ka8.1 a.1) (of_decide_eq_true a.2)
   have := ih (fun x hx => h x (Kaj _ hx))
   simp only [Kan, Ka7]
   omega
 exact this _ (fun g hg => hg)
end
section
open Go.RowKit
variable {ls : List Lev} {cs : List ByteArray}
theorem Zmh (ls : List Lev) (z : Int) : ZlY ls z = Z3Z (Z0C ls) z := by
 unfold ZlY Z3Z Z0C
 rw [Z2, Z2, Kal]
 cases ls[z.toNat]? <;> rfl
theorem Zlu (ls : List Lev) (zs : List Int) : Zla ls zs zs.length = ZlA (Z0C ls) (pf zs) zs.length := by
 unfold Zla ZlA
 rw [Kas (Z1 _)]
 congr 1
 apply Kcf (by simp)
 intro i h1 h2
 have hi : i < zs.length := by simpa using h1
 simp only [Kba, Kbv]
 rw [Zmh, show pf zs (Int.ofNat i) = zs[i] from Zfe hi]
theorem Zma (h : Z0g ls = true) (hc : ∀ c ∈ cs, Z0G c = true) (hp : ∀ l ∈ ls, ∀ c ∈ cs, l.pre <= c.size) {zs : List Int} (hz : zs.length = cs.length) (hn : Z1j ls.length zs = true) (ho : Z2o ls zs (Z16 ls cs ls.length) = true) :
 Zla ls zs cs.length <= Zla ls (Zbl ls cs) cs.length := by
 have h1 := Zlu ls zs
 have h2 := Zlu ls (Zbl ls cs)
 rw [hz] at h1
 rw [Z6V] at h2
 rw [h1, h2, Zhr]
 exact Zm8 (Z9j h hc hp) ((Zem h hc hp hz hn).1 ho)
end
section
open Go.RowKit Go.Sort
end
section
open Go.RowKit
end
section
open Go.RowKit Go.Sort
def Zle : Value := .agg #[.slice none 0 0, .slice none 0 0, .slice none 0 0]
theorem ZlU (ls : List Lev) (v vp vz : Value) (m : Mai) (zs : List Int) (k : Pck) (w : World) (hr : RdLevs w v ls) (hf : ∀ l ∈ ls, Z0K l) (hl : ls.length <= 100000) (pI : RdPces w vp m.ps) (h8 : 0 <= m.cls /\ m.cls <= 255 /\ 0 <= m.ctr /\ m.ctr <= 255)
 (pV : m.origin.size <= maxLen) (pW : m.ps.length <= 100000) (pJ : ∀ p ∈ m.ps, p.code.size <= maxLen) (hz : RdInts w vz zs) (pX : zs.length <= 1000000) (pD : Zb3 ls m zs k ≠ 0) :
 Calls Tryz.prog 12 #[v, Z2r m vp, vz, Z4J k] w fun e w' => e = .returned (.tuple #[Zle, .int .i64 (Zb3 ls m zs k)]) /\ Below w.1.size w w' := by
 have pK := Z0 (fun W (hW : Below w.1.size w W) => Z7E ls v vp vz m zs k W (hr.below hW) hf hl (pI.below hW) h8 pV pW pJ (hz.below hW) pX)
 obtain ⟨A, pL⟩ : ∃ A, A = Zb3 ls m zs k := ⟨_, rfl⟩
 rw [<- pL] at pK pD ⊢
 unfold Z2r Z4J Zle at *
 obtain ⟨kp, kg, kb, kt⟩ := k
 obtain ⟨cls, ctr, org, ps⟩ := m
 dsimp only at *
 obtain ⟨w3, pC⟩ : ∃ w3, w3 = ((w.alloc (.cells #[.int .u8 cls, .int .u8 ctr, .string org, vp] 34)).alloc (.cells #[.int .i64 kp, .int .i64 kg, .int .i64 kb, .int .i64 kt] 37)).alloc (.cells #[.slice none 0 0, .slice none 0 0, .slice none 0 0] 52) := ⟨_, rfl⟩
 obtain ⟨g1, g2, g3⟩ := ZaU pC
 have pY : w3.1.size = w.1.size + 1 + 1 + 1 := by rw [pC, Z6, Z6, Z6]
 have pM : Below w.1.size w w3 := by
  rw [pC]
  exact (((Z9 _ w).alloc (Z1 _) _).alloc (by simp) _).alloc (by simp; omega) _
 obtain ⟨x0, x1, x2, x3⟩ := Z0H g1
 obtain ⟨y0, y1, y2, y3⟩ := Z0H g2
 have pO := Z0 (fun (W : World) (hB : Below w3.1.size w3 W) => (hB.block _ (by omega)).trans g3)
 have pE := Z0 (fun (W : World) (hB : Below w3.1.size w3 W) => (fun j => Z3N (i := j) ((hB.block _ (by omega)).trans g3) : ∀ j, W.frozen? ⟨w.1.size + 1 + 1, j, none⟩ = false))
 have pZ := Z0 pC
 have pF := Z0 pM
 have qN := Z0 pD
 have hq : (A != 0) = true := by simp [pD]
 clear pC pM pY g1 g2 g3 pL hr hf pJ hz pI pD
 go_enter Tryz.func12, Tryz.ntmps12
 go_upto_region 1 with fail
 rw [<- pZ.out]
 go_wp2_with (go_at_call 29; refine (pK.out _ pF.out).mono ?_; rintro e w4 ⟨rfl, pA⟩; obtain ⟨c0, c1, c2⟩ := cells3 (pO.out w4 pA); have z0 := pE.out w4 pA 0; have z1 := pE.out w4 pA 1; have z2 := pE.out w4 pA 2)
 refine bodyPost_ret (Z68 rfl _ _ (w.1.size + 1 + 1) 52 _ (0, 0) _ (.int .i64 A) rfl rfl (ZiY (pO.out w4 pA)) Tryz.underlying52 rfl (by kernel_rfl)) rfl ?_
 have qA := Z01 pF.out pF.out.size pA
 exact ⟨rfl, ((qA.setCell (p := ⟨w.1.size + 1 + 1, 0, none⟩) (Kbr _ 2) _).setCell (p := ⟨w.1.size + 1 + 1, 1, none⟩) (Kbr _ 2) _).setCell (p := ⟨w.1.size + 1 + 1, 2, none⟩) (Kbr _ 2) _⟩
def Zlc : Value := .agg #[.slice none 0 0, .int .i64 0, .int .i64 0, .int .i64 0, .int .i64 0, .int .i64 0, .int .i64 0, .int .i64 0, .int .i64 0, .int .i64 0, .int .i64 0, .int .i64 0]
theorem Zlb {m : Mai} {k : Pck} {vr vz vl vp vn : Value} {E : Int} (w : World) (qB : ∃ a n c, vr = .slice a n c) (qC : ∃ a n c, vz = .slice a n c) (qD : ∃ a n c, vl = .slice a n c) (qE : ∃ a n c, vp = .slice a n c) (qF : ∃ a n c, vn = .slice a n c) (hE : E ≠ 0)
 (pP : ∀ W, Below w.1.size w W -> Calls Tryz.prog 12 #[vl, Z2r m vp, vn, Z4J k] W fun e w' => e = .returned (.tuple #[Zle, .int .i64 E]) /\ Below W.1.size W w') :
 Calls Tryz.prog 11 #[.agg #[vr, vz], vl, Z2r m vp, vn, Z4J k] w fun e w' => e = .returned (.tuple #[Zlc, .int .i64 E]) /\ Below w.1.size w w' := by
 obtain ⟨ar, nr, cr, rfl⟩ := qB
 obtain ⟨az, nz, cz, rfl⟩ := qC
 obtain ⟨al, nl, cl, rfl⟩ := qD
 obtain ⟨ap, np, cp, rfl⟩ := qE
 obtain ⟨an, nn, cn, rfl⟩ := qF
 have qG := Z0 pP
 have hq : (E != 0) = true := by simp [hE]
 obtain ⟨t1, t2, t3, t4, t5, t6⟩ := Z6r (w := w) (A := .cells #[.slice ar nr cr, .slice az nz cz] 29) (B := .cells #[.int .u8 m.cls, .int .u8 m.ctr, .string m.origin, .slice ap np cp] 34) (C := .cells #[.int .i64 k.pieces, .int .i64 k.grams, .int .i64 k.bundles, .int .i64 k.trays] 37) (D := ZiA) rfl
 unfold ZiA at t1 t2 t3 t4 t5 t6
 obtain ⟨W0, pG⟩ : ∃ W0, W0 = ((((w.alloc (.cells #[.slice ar nr cr, .slice az nz cz] 29)).alloc (.cells #[.int .u8 m.cls, .int .u8 m.ctr, .string m.origin, .slice ap np cp] 34)).alloc (.cells #[.int .i64 k.pieces, .int .i64 k.grams, .int .i64 k.bundles, .int .i64 k.trays] 37)).alloc (.cells #[.slice none 0 0, .int .i64 0, .int .i64 0, .int .i64 0, .int .i64 0, .int .i64 0, .int .i64 0, .int .i64 0, .int .i64 0, .int .i64 0, .int .i64 0, .int .i64 0] 44)) := ⟨_, rfl⟩
 rw [<- pG] at t1 t2 t3 t4 t5 t6
 have y0 := Kaa _ _ 0 _ _ _ t2
 have y1 := Kaa _ _ 1 _ _ _ t2
 have y2 := Kaa _ _ 2 _ _ _ t2
 have y3 := Kaa _ _ 3 _ _ _ t2
 have z0 := Kaa _ _ 0 _ _ _ t3
 have z1 := Kaa _ _ 1 _ _ _ t3
 have z2 := Kaa _ _ 2 _ _ _ t3
 have z3 := Kaa _ _ 3 _ _ _ t3
 have qO := Z0 t1
 have qP := Z0 t2
 have qH := Z0 t4
 have pH := Z0 t6
 have qI := Z0 pG
 clear t1 t2 t3 t4 t6 pG pP y0 y1 y2 y3 z0 z1 z2 z3 hE
 unfold Z2r Z4J at *
 go_enter Tryz.func11, Tryz.ntmps11
 go_wp2_with fail
 rw [<- qI.out]
 refine (qG.out _ pH.out).mono ?_
 rintro e w1 ⟨rfl, pB⟩
 have q4 := (((pB.alloc pB.size (.cells #[.slice none 0 0, .slice none 0 0, .slice none 0 0] 52)).block (w.1.size + 1 + 1 + 1) (by omega)).trans qH.out)
 have qJ := Z0 (Z01 pH.out pH.out.size (pB.alloc pB.size (.cells #[.slice none 0 0, .slice none 0 0, .slice none 0 0] 52)))
 have f0 := Z03 (j := 0) q4; have e0 := Kaa _ _ 0 _ _ _ q4; have f1 := Z03 (j := 1) q4; have e1 := Kaa _ _ 1 _ _ _ q4; have f2 := Z03 (j := 2) q4; have e2 := Kaa _ _ 2 _ _ _ q4; have f3 := Z03 (j := 3) q4; have e3 := Kaa _ _ 3 _ _ _ q4; have f4 := Z03 (j := 4) q4; have e4 := Kaa _ _ 4 _ _ _ q4; have f5 := Z03 (j := 5) q4; have e5 := Kaa _ _ 5 _ _ _ q4; have f6 := Z03 (j := 6) q4; have e6 := Kaa _ _ 6 _ _ _ q4; have f7 := Z03 (j := 7) q4; have e7 := Kaa _ _ 7 _ _ _ q4; have f8 := Z03 (j := 8) q4; have e8 := Kaa _ _ 8 _ _ _ q4; have f9 := Z03 (j := 9) q4; have e9 := Kaa _ _ 9 _ _ _ q4; have f10 := Z03 (j := 10) q4; have e10 := Kaa _ _ 10 _ _ _ q4; have f11 := Z03 (j := 11) q4; have e11 := Kaa _ _ 11 _ _ _ q4
 have qK := Z0 q4
 have qQ := pB.size
 clear q4 pB
 unfold Zle
 go_wp2_with fail
 refine bodyPost_ret (results_cell_tmp rfl _ _ (w.1.size + 1 + 1 + 1) _ rfl (run_loadVar_row _ _ _ _ _ _ _ (Zk7 qK.out) Tryz.underlying44 rfl (by kernel_rfl))) rfl ?_
 exact ⟨rfl, Z6J qJ.out (by omega)⟩
theorem ZmK {ls : List Lev} {l : List UInt16} (h : HasPlan ls (Z04 l)) {zs : List Int} (pQ : zs.length = (Z04 l).ps.length) (hn : Z1j ls.length zs = true) {W : World} {v vp vz : Value} (h1 : RdLevs W v ls) (h2 : RdPces W vp (Z04 l).ps) (h3 : RdInts W vz zs) :
 Calls Tryz.prog 16 #[v, ZdO vp, vz] W fun e w' => e = .returned (.tuple #[.bool (Z2o ls zs (Z16 ls (Z07 (Z04 l).ps) ls.length)), .int .i64 0]) /\ Below W.1.size W w' := by
 have qL := h.few
 have qM := Z0y h.right
 have := Zen ls v vp vz (Z04 l) zs W h1 (Z1A h.right) (by omega) h2 h.rng h.org (by omega) (fun p hp => by have := Z0w ((Z1Q h.mail).2 p hp); unfold maxLen; omega) h3 (by omega)
 rw [Z9D h.right h.mail h.pre pQ hn] at this
 exact this
theorem ZmN {n : Nat} {ps : List UInt8} {ls : List Lev} {l : List UInt16} (h : Mk27 n ps ls l) {zs : List Int} (pQ : zs.length = (Z04 l).ps.length) {k : Pck} {E : Int} (hA : Zb3 ls (Z04 l) zs k = E) (hE : E ≠ 0) {W : World} {vr vz v vp vn : Value} (h1 : RdTar W vr vz (Z1H n ps)) (h2 : RdLevs W v ls) (h3 : RdPces W vp (Z04 l).ps) (h4 : RdInts W vn zs) :
 Calls Tryz.prog 11 #[.agg #[vr, vz], v, ZdO vp, vn, ZkX k] W fun e w' => e = .returned (.tuple #[Zlc, .int .i64 E]) /\ Below W.1.size W w' := by
 have qL := h.hp.few
 have qM := Z0y h.hp.right
 obtain ⟨ar, cr, rfl, _⟩ := id h1.r
 obtain ⟨az, cz, rfl, _⟩ := id h1.z
 obtain ⟨al, cl, rfl, _⟩ := id h2
 obtain ⟨ap, cp, rfl, _⟩ := id h3
 obtain ⟨an, cn, rfl, _⟩ := id h4
 refine Zlb (m := Z04 l) (k := k) W ⟨_, _, _, rfl⟩ ⟨_, _, _, rfl⟩ ⟨_, _, _, rfl⟩ ⟨_, _, _, rfl⟩ ⟨_, _, _, rfl⟩ hE (fun W' hW => ?_)
 have := ZlU ls (.slice al ls.length cl) (.slice ap (Z04 l).ps.length cp) (.slice an zs.length cn) (Z04 l) zs k W' (h2.below hW) h.fits (by omega) (h3.below hW) h.hp.rng h.hp.org (by omega) h.cz (h4.below hW) (by omega) (by rw [hA]; exact hE)
 rw [hA] at this
 exact this
end
end Go.Proofs.YtlgajongmkhcnaaGreatDoor
