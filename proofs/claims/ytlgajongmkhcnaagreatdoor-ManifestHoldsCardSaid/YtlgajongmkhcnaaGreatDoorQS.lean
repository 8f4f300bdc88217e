import Derived.Test.YtlgajongmkhcnaaGreatDoorQZ
import Derived.Test.YtlgajongmkhcnaaGreatDoorQR
import Derived.BigQuiet
import Derived.BigRegion
import Derived.Deep.DeepCutAuto
import Derived.Deep.CutBlock
set_option linter.unusedVariables false
set_option linter.unusedSimpArgs false
set_option maxHeartbeats 32000000
namespace Go.Proofs.YtlgajongmkhcnaaGreatDoor
open Go.RowKit Go.Sort
set_option maxRecDepth 100000
theorem Zhx {v d : Int} (h : d ≠ 0) (h1 : -9223372036854775808 <= d) (h2 : d <= 9223372036854775807) : wrap64 (v + d) ≠ v := by
 unfold wrap64
 omega
theorem Zdc (n : Nat) (ps : List UInt8) (s : Int) (b c : Nat) (d : Int) (vp vl vc vs : Value) (ls : List Lev) (l : List UInt16) (k : Pck) (w : World) (ht : TabW w) (h : Mk27 n ps ls l) (hT : ZjG n ps #[.int .u32 (n : Nat), vp] w)
 (hM : Zjb #[.int .u32 s, vl, vc, vs, .int .i64 100, .int .u32 b] ls l (Z4h ls (Z08 l)) k w) (hk : Z7f k = true) (pI : ∀ p ∈ (Z08 l).ps, p.grams <= k.grams) (hc : c < 256) (hd : -9223372036854775808 <= d /\ d <= 9223372036854775807) :
 Calls Tryz.prog 4 #[.int .u32 (n : Nat), .int .u32 s, vp, vl, vc, vs, .int .u32 b, .int .u8 (c : Nat), .int .i64 d] w fun e w' => e = .returned (.bool true) /\ Below w.1.size w w' := by
 have sK := Z0 (fun W hW => Zbj W hW)
 have HT := Z0 hT
 have HM := Z0 hM
 have qZ := Z0 ht
 have rA : (Z08 l).ps.length = l.length := Z2P _ _
 have uX := h.hp.few
 rw [rA] at uX
 have vL := Z0z h.hp.right
 have pD := Z9n ls (Z08 l)
 have pE := h.hp.nums
 obtain ⟨zs, rB⟩ : ∃ zs, zs = Z4h ls (Z08 l) := ⟨_, rfl⟩
 have pN : Zab ls (Z08 l) zs k = 0 := by rw [rB]; exact Ze9 h.hp hk
 rw [<- rB] at HM pD pE
 obtain ⟨L, pJ⟩ : ∃ L, L = Z7U ls l zs k := ⟨_, rfl⟩
 obtain ⟨M, pT⟩ : ∃ M, M = Z8y n ps ls l zs L := ⟨_, rfl⟩
 have sL : Hid (Zja n ps ls l zs k M) := by rw [pT, pJ]; exact ZiT h pD pE pN hk pI
 have sM : Hid (Zj9 ls l zs k L) := by rw [pJ]; exact ZiP h pD pE pN hk pI
 have rC : M.lines.length = ls.length := by rw [pT]; exact Z8x ..
 have sN : Hid (ZiA n ps ls l zs k L M true) := by rw [pT, pJ]; exact ZbM h pD pE pN hk pI (by rw [Z8x]; omega) ⟨rfl, rfl, rfl⟩ (by rw [decide_eq_true rfl, decide_eq_true rfl]; rfl)
 have sO : Hid (∀ i j u, (∀ q, i = some q -> q < M.lines.length) -> j < 8 -> u ≠ lnN (M.lin i) j -> ZiA n ps ls l zs k L (M.put i j u) false) := by
  rw [pT, pJ]
  exact fun i j u hi hj hu => ZbM h pD pE pN hk pI (by rw [Zau, Z8x]; omega) (ZcN _ i j u) (ZiM _ i hi hj hu)
 have sP : Hid (∀ X q e, X.lines.length = ls.length -> q < L.buns.length -> ZiA n ps ls l zs k (Z6W L q e) X false) := by
  rw [pJ]
  exact fun X q e hX hq => Zg3 h pD pE pN hk pI (by omega) hq e
 have rD : Hid (∀ q (hq : q < L.buns.length), L.buns[q].ids ≠ []) := by
  rw [pJ]
  exact fun q hq => ((Z9p h.hp pD pE hk pI).own _ (Z4 hq)).1
 have pU : zs.length = l.length := by omega
 have vM : L.buns.length <= 100000 := by rw [pJ]; exact (Z8B h.hp pD pE hk pI).1
 clear pT pJ
 have pV := Z0 rC
 have uY := Z0 rC
 have vN : Hid ((Z08 l).ps.length = l.length) := rA
 have HD := Z0 hd
 clear pN rB pD pE rA hM hT ht pI hk hd rC
 go_enter Tryz.func4, Tryz.ntmps4
 go_wp2_with fail
 refine (sK.out _ qZ.out).mono ?_
 rintro e w1 ⟨rfl, qD⟩
 go_wp2_with fail
 refine (HT.out _ qD).mono ?_
 rintro e w2 ⟨ar, cr, az, cz, rfl, hb2', sQ⟩
 have qE := Z00 qD qD.size hb2'
 clear qD hb2'
 go_wp2_with fail
 obtain ⟨W2, pO⟩ : ∃ W2, W2 = w2.alloc (.cells #[.slice ar (Z1D n ps).rates.length cr, .slice az (Z1D n ps).zones.length cz] 29) := ⟨_, rfl⟩
 rw [<- pO]
 have b2 : Below w2.1.size w2 W2 := by rw [pO]; exact (Z9 _ w2).alloc (Z1 _) _
 refine (HM.out W2 (Z00 qE qE.size b2)).mono ?_
 rintro e w3 ⟨al, cl, ap, cp, gz, rfl, qF, sR, sS, sT, uZ⟩
 have t0 : W2.1[w2.1.size]? = some (.cells #[.slice ar (Z1D n ps).rates.length cr, .slice az (Z1D n ps).zones.length cz] 29 (0, 0)) := by rw [pO]; exact Z01 w2 _
 have s2 : W2.1.size = w2.1.size + 1 := by rw [pO]; simp
 have q3 := (qF.block _ (by omega)).trans t0
 have y0 := cell_of_row _ _ 0 _ _ _ q3
 have y1 := cell_of_row _ _ 1 _ _ _ q3
 have l3 : w2.1.size < w3.1.size := by have := qF.size; omega
 have sU := Z0 qE
 have sV := Z0 sQ
 have sW := Z0 pO
 have sX := Z0 qF
 have sY := Z0 sR
 have sZ := Z0 sS
 have tA := Z0 sT
 clear qE sQ pO qF sR sS sT uZ t0 q3 b2 s2 sK HT HM
 go_wp2_with fail
 obtain ⟨W4, rE⟩ : ∃ W, W = (w3.alloc (.cells #[.int .u8 1, .int .u8 1, .string ⟨#[49, 48, 48, 50, 51]⟩, .slice ap l.length cp] 34)).alloc (.cells #[.int .i64 k.pieces, .int .i64 k.grams, .int .i64 k.bundles, .int .i64 k.trays] 37) := ⟨_, rfl⟩
 rw [<- rE]
 have pA := Z0 (Keep.of (k := k) qZ.out sU.out sV.out sW.out sX.out sY.out sZ.out tA.out rE).1
 obtain ⟨T, tB⟩ : ∃ T, T = w2.1.size := ⟨_, rfl⟩
 obtain ⟨X, tC⟩ : ∃ X, X = w3.1.size := ⟨_, rfl⟩
 rw [<- tB] at y0 y1 l3 pA ⊢
 rw [<- tC] at l3 pA ⊢
 clear rE y0 y1 qZ sU sV sW sX sY sZ tA tB tC
 have pW := pA.out W4 (Z9 _ _)
 refine (sL.out W4 _ _ _ _ _ pW.rt pW.rl pW.rp (Z6d pW.rz pU)).mono ?_
 clear pW sL
 rintro e w5 ⟨av, cv, rfl, rF, tD⟩
 have tE : 0 < M.lines.length := by have := pV.out; omega
 obtain ⟨W6, qG⟩ : ∃ W, W = w5.alloc (.cells #[.slice av M.lines.length cv, .int .i64 M.total.level, .int .i64 M.total.pieces, .int .i64 M.total.barred, .int .i64 M.total.grams, .int .i64 M.total.base, .int .i64 M.total.bar, .int .i64 M.total.saved, .int .i64 M.total.cents, .int .i64 M.buns, .int .i64 M.tras, .int .i64 M.cons] 44) := ⟨_, rfl⟩
 obtain ⟨g, rfl, tF, b6, s6⟩ := Zgu tD rfl tE qG
 have rG := Z00 rF rF.size b6
 have pB := pA.out W6 rG
 rw [qG] at pB
 obtain ⟨m0, m1, m2, m3⟩ := pB.m
 obtain ⟨k0, k1, k2, k3⟩ := pB.k
 obtain ⟨l0, l1, l2, l3⟩ := pB.lt
 have rH := Z0 tF
 have vA := Z0 b6
 have pX := Z0 rG
 have pY := Z0 s6
 have tG := Z0 qG
 clear pB rF tD b6 rG s6 qG tF tE
 go_wp2_with fail
 rw [<- tG.out]
 obtain ⟨A, hA⟩ : ∃ A, A = w5.1.size := ⟨_, rfl⟩
 rw [<- hA] at rH pY ⊢
 clear m0 m1 m2 m3 k0 k1 k2 k3 l0 l1 l2 l3 tG hA
 have pB := pA.out W6 pX.out
 refine (sM.out W6 _ _ _ pB.rl pB.rp (Z6d pB.rz pU)).mono ?_
 clear pB sM
 rintro e w7 ⟨ab, cb, at', ct, ac, cc, rfl, pZ, o1, o2, o3⟩
 obtain ⟨W8, qH⟩ : ∃ W, W = w7.alloc (.cells #[.slice ab L.buns.length cb, .slice at' L.tras.length ct, .slice ac L.cons.length cc] 52) := ⟨_, rfl⟩
 obtain ⟨qI, b8, s8⟩ := ZgA o1 o2 o3 pZ.size qH
 have rI := Z00 pZ pZ.size b8
 have rJ := Z00 pX.out pX.out.size rI
 have qJ := rH.out.below rI
 have pP := pA.out W8 rJ
 have pQ := pP
 have rK := qJ
 have qA := qI
 rw [qH] at pQ rK qA
 obtain ⟨t0, t1⟩ := pQ.t
 obtain ⟨m0, m1, m2, m3⟩ := pQ.m
 obtain ⟨k0, k1, k2, k3⟩ := pQ.k
 obtain ⟨l0, l1, l2, l3⟩ := pQ.lt
 have c0 := cell_of_row _ _ 0 _ _ _ qA.box
 have c1 := cell_of_row _ _ 1 _ _ _ qA.box
 have c2 := cell_of_row _ _ 2 _ _ _ qA.box
 obtain ⟨a0, a1, a2, a3, a4, a5, a6, a7, a8, a9, a10, a11⟩ := Z3r rK.cells
 have HR := Z0 (sN.out W8 _ _ _ _ _ _ _ _ _ pP.rt pP.rl pP.rp (Z6d pP.rz pU) qI.rd qJ.rd)
 have rL := Z0 qI
 have tH := Z0 qJ
 have rM := Z0 rJ
 have tI := Z0 qH
 have rN : A < w7.1.size := by have := pZ.size; have := pY.out; omega
 clear qH pQ rK qA pP pZ o1 o2 o3 b8 rI rJ qI qJ s8 rH vA sN
 go_wp2_with fail
 rw [<- tI.out]
 refine HR.out.mono ?_
 clear HR t0 t1 m0 m1 m2 m3 k0 k1 k2 k3 l0 l1 l2 l3 c0 c1 c2 a0 a1 a2 a3 a4 a5 a6 a7 a8 a9 a10 a11
 rintro e w9 ⟨rfl, qK⟩
 obtain ⟨G, hG⟩ : ∃ G, G = w7.1.size := ⟨_, rfl⟩
 rw [<- hG] at rL rN ⊢
 have tJ := rL.out.below qK
 have tK := tH.out.below qK
 have tL := Z00 rM.out rM.out.size qK
 have tM := Z0 tJ
 have rO := Z0 tK
 have rP := Z0 tL
 have vO := Z0 rN
 clear hG rN tJ tK tL qK rL tH rM tI
 go_upto_if 89 with fail
 go_cut [8] (fun dv wx => wx = w9 /\ ∃ d' : Int, dv = .int .i64 d' /\ d' ≠ 0 /\ -9223372036854775808 <= d' /\ d' <= 9223372036854775807)
 case first =>
  have hd := HD.out
  by_cases qB : d = 0
  ·have e1 : (d == 0) = true := by simp [qB]
   clear qB
   go_wp2_with fail
   go_meet
   exact ⟨rfl, 1, rfl, by decide, by decide, by decide⟩
  ·have e1 : (d == 0) = false := by simp [qB]
   have vB := Z0 qB
   clear qB
   go_wp2_with fail
   go_meet
   exact ⟨rfl, d, rfl, vB.out, hd.1, hd.2⟩
 case rest =>
  obtain ⟨rfl, d', rfl, tN, tO⟩ := hcut
  have vC := Z0 tN
  have vD := Z0 tO
  clear tN tO HD
  obtain ⟨W9, rQ⟩ : ∃ W, W = wc := ⟨_, rfl⟩
  subst rQ
  obtain ⟨i0, rR⟩ : ∃ i0, i0 = c % (ls.length + 1) := ⟨_, rfl⟩
  have vE : i0 < ls.length + 1 := by rw [rR]; exact Nat.mod_lt _ (Nat.succ_pos _)
  have rS : (c : Int).tmod ((ls.length : Int) + 1) = (i0 : Int) := by rw [rR]; exact Zbs c (ls.length + 1)
  clear rR
  go_upto_if 100 with fail
  go_cut [30] (fun v wx => wx = W9 /\ ∃ (i : Option Nat) (pg po : Nat), v = .pointer (some ⟨pg, po, none⟩) /\ Z6y A g i = (pg, po) /\ ∀ q, i = some q -> q < M.lines.length)
  case first =>
   by_cases vP : i0 < ls.length
   ·have vQ : i0 < M.lines.length := by have := pV.out; omega
    have vR : (M.lines.length : Int) <= 100 := by have := pV.out; omega
    have e1 : decide ((i0 : Int) < (ls.length : Int)) = true := decide_eq_true (by omega)
    have a0 := cell_of_row _ _ 0 _ _ _ rO.out.cells
    go_wp2_with fail
    go_meet
    exact ⟨rfl, some i0, _, _, rfl, rfl, fun q e => by injection e with e; omega⟩
   ·have e1 : decide ((i0 : Int) < (ls.length : Int)) = false := decide_eq_false (by omega)
    go_wp2_with fail
    go_meet
    exact ⟨rfl, none, _, _, rfl, rfl, fun q e => by cases e⟩
  case rest =>
   obtain ⟨rfl, i, pg, po, rfl, tP, tQ⟩ := hcut
   obtain ⟨W9, rQ⟩ : ∃ W, W = wc := ⟨_, rfl⟩
   subst rQ
   have tR := Z0 tP
   have rT := Z0 tQ
   clear rS vE tP tQ
   go_wp2_with fail
   refine (Z8s pg po W9).mono ?_
   rintro e w10 ⟨rfl, qL, rU⟩
   obtain ⟨NB, tS⟩ : ∃ N, N = W9.1.size := ⟨_, rfl⟩
   rw [<- tS] at rU ⊢
   have HN := Z0 rU
   have tT := Z0 (tM.out.below qL)
   have tU := Z0 (rO.out.below qL)
   have tV := Z0 (Z00 rP.out rP.out.size qL)
   clear tS rU qL tM rO rP
   have qM : c / 8 % 8 < 8 := Nat.mod_lt _ (by decide)
   have tW := ZhM HN.out qM
   obtain ⟨pC, pK, pL, pF⟩ := tU.out.num i rT.out qM
   rw [tR.out] at pC pK pL pF
   dsimp only at pC pK pL pF
   have pR := Z0 pF
   have qN := Z0 pL
   have rV := Z0 qM
   clear pF pL qM HN
   go_upto_region 17 with fail
   obtain ⟨j, hj⟩ : ∃ j, j = c / 8 % 8 := ⟨_, rfl⟩
   rw [<- hj] at pC pK tW pR rV ⊢
   clear hj
   obtain ⟨v, hv⟩ : ∃ v, v = lnN (M.lin i) j := ⟨_, rfl⟩
   rw [<- hv] at pC
   have HV := Z0 hv
   clear hv tW
   go_upto_region 18 with fail
   obtain ⟨u, hu⟩ : ∃ u, u = wrap64 (v + d') := ⟨_, rfl⟩
   rw [<- hu]
   have tX : u ≠ v := by
    have h1 := vC.out
    have h2 := vD.out
    rw [hu]
    exact Zhx h1 h2.1 h2.2
   obtain ⟨W11, tY⟩ : ∃ W, W = w10.setCell ⟨pg, po + j, none⟩ (.int .i64 u) := ⟨_, rfl⟩
   have pS := pR.out u
   have pM := tT.out.set (g := pg) (o := po + j) (by have := qN.out; have := pY.out; omega) (.int .i64 u)
   have qO : Below W4.1.size W4 (w10.setCell ⟨pg, po + j, none⟩ (.int .i64 u)) := tV.out.setCell qN.out.1 _
   have rW := sO.out i j u rT.out rV.out (by rw [<- HV.out]; exact tX)
   have rX : (M.put i j u).lines.length = ls.length := by rw [Zau]; exact pV.out
   rw [<- tY] at pS pM qO ⊢
   obtain ⟨X1, tZ⟩ : ∃ X1, X1 = M.put i j u := ⟨_, rfl⟩
   rw [<- tZ] at pS rW rX
   have rY := Z0 rX
   clear hu tX tZ tY pC pK pR HV tU tT tV rX sO pV
   have pG := pA.out W11 qO
   obtain ⟨t0, t1⟩ := pG.t
   obtain ⟨m0, m1, m2, m3⟩ := pG.m
   obtain ⟨k0, k1, k2, k3⟩ := pG.k
   obtain ⟨l0, l1, l2, l3⟩ := pG.lt
   have c0 := cell_of_row _ _ 0 _ _ _ pM.box
   have c1 := cell_of_row _ _ 1 _ _ _ pM.box
   have c2 := cell_of_row _ _ 2 _ _ _ pM.box
   obtain ⟨a0, a1, a2, a3, a4, a5, a6, a7, a8, a9, a10, a11⟩ := Z3r pS.cells
   have HR := Z0 (rW W11 _ _ _ _ _ _ _ _ _ pG.rt pG.rl pG.rp (Z6d pG.rz pU) pM.rd pS.rd)
   have uA := Z0 pM
   have uB := Z0 pS
   have rZ := Z0 qO
   clear rW pG pM pS qO
   go_wp2_with fail
   refine HR.out.mono ?_
   clear HR t0 t1 m0 m1 m2 m3 k0 k1 k2 k3 l0 l1 l2 l3 c0 c1 c2 a0 a1 a2 a3 a4 a5 a6 a7 a8 a9 a10 a11
   rintro e w12 ⟨rfl, qP⟩
   have uC := uB.out.below qP
   have uD := Z0 (uA.out.below qP)
   have uE := Z0 (Z00 rZ.out rZ.out.size qP)
   obtain ⟨pC, pK, pL, pF⟩ := uC.num i (by rw [rY.out]; have := rT.out; rw [uY.out] at this; exact this) rV.out
   rw [tR.out] at pC pK pL pF
   dsimp only at pC pK pL pF
   obtain ⟨v2, uF⟩ : ∃ v2, v2 = lnN (X1.lin i) j := ⟨_, rfl⟩
   rw [<- uF] at pC
   have pR := Z0 pF
   clear uF pF pL qP uC uB uA rZ
   go_upto_region 22 with fail
   obtain ⟨u2, uG⟩ : ∃ u2, u2 = wrap64 (v2 - d') := ⟨_, rfl⟩
   rw [<- uG]
   obtain ⟨W13, uH⟩ : ∃ W, W = w12.setCell ⟨pg, po + j, none⟩ (.int .i64 u2) := ⟨_, rfl⟩
   have qQ := pR.out u2
   have qR := uD.out.set (g := pg) (o := po + j) (by have := qN.out; have := pY.out; omega) (.int .i64 u2)
   have sA : Below W4.1.size W4 (w12.setCell ⟨pg, po + j, none⟩ (.int .i64 u2)) := uE.out.setCell qN.out.1 _
   have sB : (X1.put i j u2).lines.length = ls.length := by rw [Zau]; exact rY.out
   rw [<- uH] at qQ qR sA ⊢
   obtain ⟨X2, uI⟩ : ∃ X2, X2 = X1.put i j u2 := ⟨_, rfl⟩
   rw [<- uI] at qQ sB
   have c0 := cell_of_row _ _ 0 _ _ _ qR.box
   have uJ := Z0 qQ
   have sC := Z0 qR
   have qS := Z0 sA
   have vF := Z0 sB
   clear uG uI uH pC pK pR uD uE qQ qR sA sB rY
   by_cases hz : L.buns.length = 0
   ·have e1 : ((L.buns.length : Int) == 0) = true := by rw [hz]; rfl
    clear hz
    go_wp2_with fail
    go_ret
    exact ⟨rfl, (pA.out W13 qS.out).bw⟩
   ·have e1 : ((L.buns.length : Int) == 0) = false := by rw [beq_eq_false_iff_ne]; omega
    obtain ⟨q0, sD⟩ : ∃ q0, q0 = c % L.buns.length := ⟨_, rfl⟩
    have qT : q0 < L.buns.length := by rw [sD]; exact Nat.mod_lt _ (by omega)
    have rS : (c : Int).tmod (L.buns.length : Int) = (q0 : Int) := by rw [sD]; exact Zbs c _
    obtain ⟨gb, gi, oi, ci, rfl, uK, d1, d2, uL, qU⟩ := sC.out.drop qT (rD.out q0 qT)
    have uM := sP.out X2 q0 (decide (ci = 1)) vF.out qT
    obtain ⟨pv, sE⟩ : ∃ pv, pv = (if ci = 1 then some (⟨gi, oi, none⟩ : Addr) else some ⟨gi, oi + 1, none⟩) := ⟨_, rfl⟩
    simp only [<- sE] at qU
    have vG := Z0 sE
    clear sE
    have vH : 1 <= L.buns[q0].ids.length := List.length_pos_iff.2 (rD.out q0 qT)
    generalize L.buns[q0].ids.length = ni at d1 qU vH
    have uN := Z0 qU
    have uO := Z0 uK
    have uP := Z0 uM
    have vI := Z0 uL
    clear sD qU uK uM uL sP rD
    go_upto_region 24 with fail
    have qV := (Z9 W13.1.size W13).drew
    have uQ := uJ.out.below qV
    have uR := sC.out.below qV
    have uS := Z00 qS.out qS.out.size qV
    have d1' : W13.drew.cell? ⟨gb, q0 * 4 + 2, none⟩ = some (.slice (some ⟨gi, oi, none⟩) ni ci) := d1
    have d2' : W13.drew.frozen? ⟨gb, q0 * 4 + 2, none⟩ = false := d2
    have sF : Hid (∀ c', RdLod (W13.drew.setCell ⟨gb, q0 * 4 + 2, none⟩ (.slice pv (ni - 1) c')) (.slice (some ⟨gb, 0, none⟩) L.buns.length cb) (.slice at' L.tras.length ct) (.slice ac L.cons.length cc) (Z6W L q0 (decide (ci = 1)))) := fun c' => (uN.out c').below ((Z9 (W13.setCell ⟨gb, q0 * 4 + 2, none⟩ (.slice pv (ni - 1) c')).1.size (W13.setCell ⟨gb, q0 * 4 + 2, none⟩ (.slice pv (ni - 1) c'))).drew)
    have qW := Z0 uQ
    have sG := Z0 uR
    have sH := Z0 uS
    clear qV uQ uR uS
    go_region
    clear uJ sC qS uN d1 d2 c0 rS
    obtain ⟨W14, uT⟩ : ∃ W, W = W13.drew := ⟨_, rfl⟩
    rw [<- uT] at d1' d2' sF qW sG sH ⊢
    clear uT
    go_upto_region 26 with fail
    rw [<- vG.out]
    obtain ⟨W15, uU⟩ : ∃ W, W = W14.setCell ⟨gb, q0 * 4 + 2, none⟩ (.slice pv (ni - 1) (ci - 1)) := ⟨_, rfl⟩
    have sI := sF.out (ci - 1)
    have vJ : W4.1.size <= gb := by have := uO.out; have := pX.out.size; omega
    have qX : Below W4.1.size W4 (W14.setCell ⟨gb, q0 * 4 + 2, none⟩ (.slice pv (ni - 1) (ci - 1))) := sH.out.setCell vJ _
    have uV : gb ≠ A /\ gb ≠ g := by have := uO.out; have := pY.out; have := qW.out.lt; omega
    have qY : ManS (W14.setCell ⟨gb, q0 * 4 + 2, none⟩ (.slice pv (ni - 1) (ci - 1))) W4.1.size A g cv X2 := qW.out.from (Z4T (Ne.symm uV.1) _) (Z4T (Ne.symm uV.2) _)
    have qC : (W14.setCell ⟨gb, q0 * 4 + 2, none⟩ (.slice pv (ni - 1) (ci - 1))).1[G]? = _ := (Z4T (Ne.symm vI.out) _).trans sG.out.box
    rw [<- uU] at sI qX qY qC ⊢
    have pH := pA.out W15 qX
    obtain ⟨t0, t1⟩ := pH.t
    obtain ⟨m0, m1, m2, m3⟩ := pH.m
    obtain ⟨k0, k1, k2, k3⟩ := pH.k
    obtain ⟨l0, l1, l2, l3⟩ := pH.lt
    have c0 := cell_of_row _ _ 0 _ _ _ qC
    have c1 := cell_of_row _ _ 1 _ _ _ qC
    have c2 := cell_of_row _ _ 2 _ _ _ qC
    obtain ⟨a0, a1, a2, a3, a4, a5, a6, a7, a8, a9, a10, a11⟩ := Z3r qY.cells
    have HR := Z0 (uP.out W15 _ _ _ _ _ _ _ _ _ pH.rt pH.rl pH.rp (Z6d pH.rz pU) sI qY.rd)
    have sJ := Z0 qX
    clear uU pH sI qY qC qX d1' d2' sF qW sG sH uP pX
    go_wp2_with fail
    refine HR.out.mono ?_
    clear HR t0 t1 m0 m1 m2 m3 k0 k1 k2 k3 l0 l1 l2 l3 c0 c1 c2 a0 a1 a2 a3 a4 a5 a6 a7 a8 a9 a10 a11
    rintro e w16 ⟨rfl, uW⟩
    have vK := (pA.out w16 (Z00 sJ.out sJ.out.size uW)).bw
    clear uW sJ
    go_wp2_with fail
    go_ret
    exact ⟨rfl, vK⟩
end Go.Proofs.YtlgajongmkhcnaaGreatDoor
