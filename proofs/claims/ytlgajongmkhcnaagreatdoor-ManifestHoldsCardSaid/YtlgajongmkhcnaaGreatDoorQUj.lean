import Derived.Test.YtlgajongmkhcnaaGreatDoorQUo
import Derived.Test.YtlgajongmkhcnaaGreatDoorQUR
import Derived.BigQuiet
import Derived.BigRegion
import Derived.Deep.DeepCutAuto
import Derived.Deep.CutBlock
set_option maxRecDepth 100000
set_option linter.unusedVariables false
set_option linter.unusedSimpArgs false
set_option maxHeartbeats 32000000
namespace Go.Proofs.YtlgajongmkhcnaaGreatDoor
open Go.RowKit Go.Sort
theorem ZmH {v d : Int} (h : d ≠ 0) (h1 : -9223372036854775808 <= d) (h2 : d <= 9223372036854775807) : wrap64 (v + d) ≠ v := by
 unfold wrap64
 omega
theorem Zme (n : Nat) (ps : List UInt8) (s : Int) (b c : Nat) (d : Int) (vp vl vc vs : Value) (ls : List Lev) (l : List UInt16) (k : Pck) (w : World) (ht : TabW w) (h : Mk27 n ps ls l) (hT : ZkU n ps #[.int .u32 (n : Nat), vp] w)
 (hM : ZjV #[.int .u32 s, vl, vc, vs, .int .i64 100, .int .u32 b] ls l (Z3W ls (Z04 l)) k w) (hk : Z7K k = true) (pI : ∀ p ∈ (Z04 l).ps, p.grams <= k.grams) (hc : c < 256) (hd : -9223372036854775808 <= d /\ d <= 9223372036854775807) :
 Calls Tryz.prog 4 #[.int .u32 (n : Nat), .int .u32 s, vp, vl, vc, vs, .int .u32 b, .int .u8 (c : Nat), .int .i64 d] w fun e w' => e = .returned (.bool true) /\ Below w.1.size w w' := by
 have sK := Z0 (fun W hW => Z7C W hW)
 have HT := Z0 hT
 have HM := Z0 hM
 have qZ := Z0 ht
 have rA : (Z04 l).ps.length = l.length := Z2A _ _
 have uY := h.hp.few
 rw [rA] at uY
 have vM := Z0y h.hp.right
 have pD := Z6U ls (Z04 l)
 have pE := h.hp.nums
 obtain ⟨zs, rB⟩ : ∃ zs, zs = Z3W ls (Z04 l) := ⟨_, rfl⟩
 have pN : Zb3 ls (Z04 l) zs k = 0 := by rw [rB]; exact Za5 h.hp hk
 rw [<- rB] at HM pD pE
 obtain ⟨L, pJ⟩ : ∃ L, L = ZbD ls l zs k := ⟨_, rfl⟩
 obtain ⟨M, pT⟩ : ∃ M, M = Z5y n ps ls l zs L := ⟨_, rfl⟩
 have sL : Hid (ZjU n ps ls l zs k M) := by rw [pT, pJ]; exact ZiB h pD pE pN hk pI
 have sM : Hid (Zkv ls l zs k L) := by rw [pJ]; exact Zkc h pD pE pN hk pI
 have rC : M.lines.length = ls.length := by rw [pT]; exact ZcK ..
 have sN : Hid (ZmQ n ps ls l zs k L M true) := by rw [pT, pJ]; exact Zm3 h pD pE pN hk pI (by rw [ZcK]; omega) ⟨rfl, rfl, rfl⟩ (by rw [Kac rfl, Kac rfl]; rfl)
 have sO : Hid (∀ i j u, (∀ q, i = some q -> q < M.lines.length) -> j < 8 -> u ≠ lnN (M.lin i) j -> ZmQ n ps ls l zs k L (M.put i j u) false) := by
  rw [pT, pJ]
  exact fun i j u hi hj hu => Zm3 h pD pE pN hk pI (by rw [ZlS, ZcK]; omega) (Zm7 _ i j u) (ZmS _ i hi hj hu)
 have sP : Hid (∀ X q e, X.lines.length = ls.length -> q < L.buns.length -> ZmQ n ps ls l zs k (Zjx L q e) X false) := by
  rw [pJ]
  exact fun X q e hX hq => ZmA h pD pE pN hk pI (by omega) hq e
 have rD : Hid (∀ q (hq : q < L.buns.length), L.buns[q].ids ≠ []) := by
  rw [pJ]
  exact fun q hq => ((Zcu h.hp pD pE hk pI).own _ (Z4 hq)).1
 have pU : zs.length = l.length := by omega
 have vN : L.buns.length <= 100000 := by rw [pJ]; exact (ZbC h.hp pD pE hk pI).1
 clear pT pJ
 have pV := Z0 rC
 have uZ := Z0 rC
 have vO : Hid ((Z04 l).ps.length = l.length) := rA
 have HD := Z0 hd
 clear pN rB pD pE rA hM hT ht pI hk hd rC
 go_enter Tryz.func4, Tryz.ntmps4
 go_wp2_with fail
 refine (sK.out _ qZ.out).mono ?_
 rintro e w1 ⟨rfl, qD⟩
 go_wp2_with fail
 refine (HT.out _ qD).mono ?_
 rintro e w2 ⟨ar, cr, az, cz, rfl, sQ, sR⟩
 have qE := Z01 qD qD.size sQ
 clear qD sQ
 go_wp2_with fail
 obtain ⟨W2, pO⟩ : ∃ W2, W2 = w2.alloc (.cells #[.slice ar (Z1H n ps).rates.length cr, .slice az (Z1H n ps).zones.length cz] 29) := ⟨_, rfl⟩
 rw [<- pO]
 have b2 : Below w2.1.size w2 W2 := by rw [pO]; exact (Z9 _ w2).alloc (Z1 _) _
 refine (HM.out W2 (Z01 qE qE.size b2)).mono ?_
 rintro e w3 ⟨al, cl, ap, cp, gz, rfl, qF, sS, sT, sU, vA⟩
 have t0 : W2.1[w2.1.size]? = some (.cells #[.slice ar (Z1H n ps).rates.length cr, .slice az (Z1H n ps).zones.length cz] 29 (0, 0)) := by rw [pO]; exact Z02 w2 _
 have s2 : W2.1.size = w2.1.size + 1 := by rw [pO]; simp
 have q3 := (qF.block _ (by omega)).trans t0
 have y0 := Kaa _ _ 0 _ _ _ q3
 have y1 := Kaa _ _ 1 _ _ _ q3
 have l3 : w2.1.size < w3.1.size := by have := qF.size; omega
 have sV := Z0 qE
 have sW := Z0 sR
 have sX := Z0 pO
 have sY := Z0 qF
 have sZ := Z0 sS
 have tA := Z0 sT
 have tB := Z0 sU
 clear qE sR pO qF sS sT sU vA t0 q3 b2 s2 sK HT HM
 go_wp2_with fail
 obtain ⟨W4, rE⟩ : ∃ W, W = (w3.alloc (.cells #[.int .u8 1, .int .u8 1, .string ⟨#[49, 48, 48, 50, 51]⟩, .slice ap l.length cp] 34)).alloc (.cells #[.int .i64 k.pieces, .int .i64 k.grams, .int .i64 k.bundles, .int .i64 k.trays] 37) := ⟨_, rfl⟩
 rw [<- rE]
 have pA := Z0 (Keep.of (k := k) qZ.out sV.out sW.out sX.out sY.out sZ.out tA.out tB.out rE).1
 obtain ⟨T, tC⟩ : ∃ T, T = w2.1.size := ⟨_, rfl⟩
 obtain ⟨X, tD⟩ : ∃ X, X = w3.1.size := ⟨_, rfl⟩
 rw [<- tC] at y0 y1 l3 pA ⊢
 rw [<- tD] at l3 pA ⊢
 clear rE y0 y1 qZ sV sW sX sY sZ tA tB tC tD
 have pW := pA.out W4 (Z9 _ _)
 refine (sL.out W4 _ _ _ _ _ pW.rt pW.rl pW.rp (Z92 pW.rz pU)).mono ?_
 clear pW sL
 rintro e w5 ⟨av, cv, rfl, rF, tE⟩
 have tF : 0 < M.lines.length := by have := pV.out; omega
 obtain ⟨W6, qG⟩ : ∃ W, W = w5.alloc (.cells #[.slice av M.lines.length cv, .int .i64 M.total.level, .int .i64 M.total.pieces, .int .i64 M.total.barred, .int .i64 M.total.grams, .int .i64 M.total.base, .int .i64 M.total.bar, .int .i64 M.total.saved, .int .i64 M.total.cents, .int .i64 M.buns, .int .i64 M.tras, .int .i64 M.cons] 44) := ⟨_, rfl⟩
 obtain ⟨g, rfl, tG, b6, s6⟩ := ZcJ tE rfl tF qG
 have rG := Z01 rF rF.size b6
 have pB := pA.out W6 rG
 rw [qG] at pB
 obtain ⟨m0, m1, m2, m3⟩ := pB.m
 obtain ⟨k0, k1, k2, k3⟩ := pB.k
 obtain ⟨l0, l1, l2, l3⟩ := pB.lt
 have rH := Z0 tG
 have vB := Z0 b6
 have pX := Z0 rG
 have pY := Z0 s6
 have tH := Z0 qG
 clear pB rF tE b6 rG s6 qG tG tF
 go_wp2_with fail
 rw [<- tH.out]
 obtain ⟨A, hA⟩ : ∃ A, A = w5.1.size := ⟨_, rfl⟩
 rw [<- hA] at rH pY ⊢
 clear m0 m1 m2 m3 k0 k1 k2 k3 l0 l1 l2 l3 tH hA
 have pB := pA.out W6 pX.out
 refine (sM.out W6 _ _ _ pB.rl pB.rp (Z92 pB.rz pU)).mono ?_
 clear pB sM
 rintro e w7 ⟨ab, cb, at', ct, ac, cc, rfl, pZ, o1, o2, o3⟩
 obtain ⟨W8, qH⟩ : ∃ W, W = w7.alloc (.cells #[.slice ab L.buns.length cb, .slice at' L.tras.length ct, .slice ac L.cons.length cc] 52) := ⟨_, rfl⟩
 obtain ⟨qI, b8, s8⟩ := ZhO o1 o2 o3 pZ.size qH
 have rI := Z01 pZ pZ.size b8
 have rJ := Z01 pX.out pX.out.size rI
 have qJ := rH.out.below rI
 have pP := pA.out W8 rJ
 have pQ := pP
 have rK := qJ
 have qA := qI
 rw [qH] at pQ rK qA
 obtain ⟨t0, t1⟩ := pQ.t
 obtain ⟨m0, m1, m2, m3⟩ := pQ.m
 obtain ⟨k0, k1, k2, k3⟩ := pQ.k
 obtain ⟨l0, l1, l2, l3⟩ := pQ.lt
 have c0 := Kaa _ _ 0 _ _ _ qA.box
 have c1 := Kaa _ _ 1 _ _ _ qA.box
 have c2 := Kaa _ _ 2 _ _ _ qA.box
 obtain ⟨a0, a1, a2, a3, a4, a5, a6, a7, a8, a9, a10, a11⟩ := Z1w rK.cells
 have HR := Z0 (sN.out W8 _ _ _ _ _ _ _ _ _ pP.rt pP.rl pP.rp (Z92 pP.rz pU) qI.rd qJ.rd)
 have rL := Z0 qI
 have tI := Z0 qJ
 have rM := Z0 rJ
 have tJ := Z0 qH
 have rN : A < w7.1.size := by have := pZ.size; have := pY.out; omega
 clear qH pQ rK qA pP pZ o1 o2 o3 b8 rI rJ qI qJ s8 rH vB sN
 go_wp2_with fail
 rw [<- tJ.out]
 refine HR.out.mono ?_
 clear HR t0 t1 m0 m1 m2 m3 k0 k1 k2 k3 l0 l1 l2 l3 c0 c1 c2 a0 a1 a2 a3 a4 a5 a6 a7 a8 a9 a10 a11
 rintro e w9 ⟨rfl, qK⟩
 obtain ⟨G, hG⟩ : ∃ G, G = w7.1.size := ⟨_, rfl⟩
 rw [<- hG] at rL rN ⊢
 have tK := rL.out.below qK
 have tL := tI.out.below qK
 have tM := Z01 rM.out rM.out.size qK
 have tN := Z0 tK
 have rO := Z0 tL
 have rP := Z0 tM
 have vP := Z0 rN
 clear hG rN tK tL tM qK rL tI rM tJ
 go_upto_if 89 with fail
 go_cut [8] (fun dv wx => wx = w9 /\ ∃ d' : Int, dv = .int .i64 d' /\ d' ≠ 0 /\ -9223372036854775808 <= d' /\ d' <= 9223372036854775807)
 case first =>
  have hd := HD.out
  by_cases qB : d = 0
  ·have e1 : (d == 0) = true := by simp [qB]
   clear qB
   go_wp2_with fail
   go_meet
   exact ⟨rfl, 1, rfl, by decide, by decide, by decide⟩
  ·have e1 : (d == 0) = false := by simp [qB]
   have vC := Z0 qB
   clear qB
   go_wp2_with fail
   go_meet
   exact ⟨rfl, d, rfl, vC.out, hd.1, hd.2⟩
 case rest =>
  obtain ⟨rfl, d', rfl, tO, tP⟩ := hcut
  have vD := Z0 tO
  have vE := Z0 tP
  clear tO tP HD
  obtain ⟨W9, rQ⟩ : ∃ W, W = wc := ⟨_, rfl⟩
  subst rQ
  obtain ⟨i0, rR⟩ : ∃ i0, i0 = c % (ls.length + 1) := ⟨_, rfl⟩
  have vF : i0 < ls.length + 1 := by rw [rR]; exact Kcj _ (Nat.succ_pos _)
  have rS : (c : Int).tmod ((ls.length : Int) + 1) = (i0 : Int) := by rw [rR]; exact Zm2 c (ls.length + 1)
  clear rR
  go_upto_if 100 with fail
  go_cut [30] (fun v wx => wx = W9 /\ ∃ (i : Option Nat) (pg po : Nat), v = .pointer (some ⟨pg, po, none⟩) /\ Zlw A g i = (pg, po) /\ ∀ q, i = some q -> q < M.lines.length)
  case first =>
   by_cases vQ : i0 < ls.length
   ·have vR : i0 < M.lines.length := by have := pV.out; omega
    have vS : (M.lines.length : Int) <= 100 := by have := pV.out; omega
    have e1 : decide ((i0 : Int) < (ls.length : Int)) = true := Kac (by omega)
    have a0 := Kaa _ _ 0 _ _ _ rO.out.cells
    go_wp2_with fail
    go_meet
    exact ⟨rfl, some i0, _, _, rfl, rfl, fun q e => by injection e with e; omega⟩
   ·have e1 : decide ((i0 : Int) < (ls.length : Int)) = false := Kad (by omega)
    go_wp2_with fail
    go_meet
    exact ⟨rfl, none, _, _, rfl, rfl, fun q e => by cases e⟩
  case rest =>
   obtain ⟨rfl, i, pg, po, rfl, tQ, tR⟩ := hcut
   obtain ⟨W9, rQ⟩ : ∃ W, W = wc := ⟨_, rfl⟩
   subst rQ
   have tS := Z0 tQ
   have rT := Z0 tR
   clear rS vF tQ tR
   go_wp2_with fail
   refine (ZlE pg po W9).mono ?_
   rintro e w10 ⟨rfl, qL, rU⟩
   obtain ⟨NB, tT⟩ : ∃ N, N = W9.1.size := ⟨_, rfl⟩
   rw [<- tT] at rU ⊢
   have HN := Z0 rU
   have tU := Z0 (tN.out.below qL)
   have tV := Z0 (rO.out.below qL)
   have tW := Z0 (Z01 rP.out rP.out.size qL)
   clear tT rU qL tN rO rP
   have qM : c / 8 % 8 < 8 := Kcj _ (by decide)
   have tX := ZmL HN.out qM
   obtain ⟨pC, pK, pL, pF⟩ := tV.out.num i rT.out qM
   rw [tS.out] at pC pK pL pF
   dsimp only at pC pK pL pF
   have pR := Z0 pF
   have qN := Z0 pL
   have rV := Z0 qM
   clear pF pL qM HN
   go_upto_region 17 with fail
   obtain ⟨j, hj⟩ : ∃ j, j = c / 8 % 8 := ⟨_, rfl⟩
   rw [<- hj] at pC pK tX pR rV ⊢
   clear hj
   obtain ⟨v, hv⟩ : ∃ v, v = lnN (M.lin i) j := ⟨_, rfl⟩
   rw [<- hv] at pC
   have HV := Z0 hv
   clear hv tX
   go_upto_region 18 with fail
   obtain ⟨u, hu⟩ : ∃ u, u = wrap64 (v + d') := ⟨_, rfl⟩
   rw [<- hu]
   have tY : u ≠ v := by
    have h1 := vD.out
    have h2 := vE.out
    rw [hu]
    exact ZmH h1 h2.1 h2.2
   obtain ⟨W11, tZ⟩ : ∃ W, W = w10.setCell ⟨pg, po + j, none⟩ (.int .i64 u) := ⟨_, rfl⟩
   have pS := pR.out u
   have pM := tU.out.set (g := pg) (o := po + j) (by have := qN.out; have := pY.out; omega) (.int .i64 u)
   have qO : Below W4.1.size W4 (w10.setCell ⟨pg, po + j, none⟩ (.int .i64 u)) := tW.out.setCell qN.out.1 _
   have rW := sO.out i j u rT.out rV.out (by rw [<- HV.out]; exact tY)
   have rX : (M.put i j u).lines.length = ls.length := by rw [ZlS]; exact pV.out
   rw [<- tZ] at pS pM qO ⊢
   obtain ⟨X1, uA⟩ : ∃ X1, X1 = M.put i j u := ⟨_, rfl⟩
   rw [<- uA] at pS rW rX
   have rY := Z0 rX
   clear hu tY uA tZ pC pK pR HV tV tU tW rX sO pV
   have pG := pA.out W11 qO
   obtain ⟨t0, t1⟩ := pG.t
   obtain ⟨m0, m1, m2, m3⟩ := pG.m
   obtain ⟨k0, k1, k2, k3⟩ := pG.k
   obtain ⟨l0, l1, l2, l3⟩ := pG.lt
   have c0 := Kaa _ _ 0 _ _ _ pM.box
   have c1 := Kaa _ _ 1 _ _ _ pM.box
   have c2 := Kaa _ _ 2 _ _ _ pM.box
   obtain ⟨a0, a1, a2, a3, a4, a5, a6, a7, a8, a9, a10, a11⟩ := Z1w pS.cells
   have HR := Z0 (rW W11 _ _ _ _ _ _ _ _ _ pG.rt pG.rl pG.rp (Z92 pG.rz pU) pM.rd pS.rd)
   have uB := Z0 pM
   have uC := Z0 pS
   have rZ := Z0 qO
   clear rW pG pM pS qO
   go_wp2_with fail
   refine HR.out.mono ?_
   clear HR t0 t1 m0 m1 m2 m3 k0 k1 k2 k3 l0 l1 l2 l3 c0 c1 c2 a0 a1 a2 a3 a4 a5 a6 a7 a8 a9 a10 a11
   rintro e w12 ⟨rfl, qP⟩
   have uD := uC.out.below qP
   have uE := Z0 (uB.out.below qP)
   have uF := Z0 (Z01 rZ.out rZ.out.size qP)
   obtain ⟨pC, pK, pL, pF⟩ := uD.num i (by rw [rY.out]; have := rT.out; rw [uZ.out] at this; exact this) rV.out
   rw [tS.out] at pC pK pL pF
   dsimp only at pC pK pL pF
   obtain ⟨v2, uG⟩ : ∃ v2, v2 = lnN (X1.lin i) j := ⟨_, rfl⟩
   rw [<- uG] at pC
   have pR := Z0 pF
   clear uG pF pL qP uD uC uB rZ
   go_upto_region 22 with fail
   obtain ⟨u2, uH⟩ : ∃ u2, u2 = wrap64 (v2 - d') := ⟨_, rfl⟩
   rw [<- uH]
   obtain ⟨W13, uI⟩ : ∃ W, W = w12.setCell ⟨pg, po + j, none⟩ (.int .i64 u2) := ⟨_, rfl⟩
   have qQ := pR.out u2
   have qR := uE.out.set (g := pg) (o := po + j) (by have := qN.out; have := pY.out; omega) (.int .i64 u2)
   have sA : Below W4.1.size W4 (w12.setCell ⟨pg, po + j, none⟩ (.int .i64 u2)) := uF.out.setCell qN.out.1 _
   have sB : (X1.put i j u2).lines.length = ls.length := by rw [ZlS]; exact rY.out
   rw [<- uI] at qQ qR sA ⊢
   obtain ⟨X2, uJ⟩ : ∃ X2, X2 = X1.put i j u2 := ⟨_, rfl⟩
   rw [<- uJ] at qQ sB
   have c0 := Kaa _ _ 0 _ _ _ qR.box
   have uK := Z0 qQ
   have sC := Z0 qR
   have qS := Z0 sA
   have vG := Z0 sB
   clear uH uJ uI pC pK pR uE uF qQ qR sA sB rY
   by_cases hz : L.buns.length = 0
   ·have e1 : ((L.buns.length : Int) == 0) = true := by rw [hz]; rfl
    clear hz
    go_wp2_with fail
    go_ret
    exact ⟨rfl, (pA.out W13 qS.out).bw⟩
   ·have e1 : ((L.buns.length : Int) == 0) = false := by rw [beq_eq_false_iff_ne]; omega
    obtain ⟨q0, sD⟩ : ∃ q0, q0 = c % L.buns.length := ⟨_, rfl⟩
    have qT : q0 < L.buns.length := by rw [sD]; exact Kcj _ (by omega)
    have rS : (c : Int).tmod (L.buns.length : Int) = (q0 : Int) := by rw [sD]; exact Zm2 c _
    obtain ⟨gb, gi, oi, ci, rfl, uL, d1, d2, uM, qU⟩ := sC.out.drop qT (rD.out q0 qT)
    have uN := sP.out X2 q0 (decide (ci = 1)) vG.out qT
    obtain ⟨pv, sE⟩ : ∃ pv, pv = (if ci = 1 then some (⟨gi, oi, none⟩ : Addr) else some ⟨gi, oi + 1, none⟩) := ⟨_, rfl⟩
    simp only [<- sE] at qU
    have vH := Z0 sE
    clear sE
    have vI : 1 <= L.buns[q0].ids.length := Kcr.2 (rD.out q0 qT)
    generalize L.buns[q0].ids.length = ni at d1 qU vI
    have uO := Z0 qU
    have uP := Z0 uL
    have uQ := Z0 uN
    have vJ := Z0 uM
    clear sD qU uL uN uM sP rD
    go_upto_region 24 with fail
    have qV := (Z9 W13.1.size W13).drew
    have uR := uK.out.below qV
    have uS := sC.out.below qV
    have uT := Z01 qS.out qS.out.size qV
    have d1' : W13.drew.cell? ⟨gb, q0 * 4 + 2, none⟩ = some (.slice (some ⟨gi, oi, none⟩) ni ci) := d1
    have d2' : W13.drew.frozen? ⟨gb, q0 * 4 + 2, none⟩ = false := d2
    have sF : Hid (∀ c', RdLod (W13.drew.setCell ⟨gb, q0 * 4 + 2, none⟩ (.slice pv (ni - 1) c')) (.slice (some ⟨gb, 0, none⟩) L.buns.length cb) (.slice at' L.tras.length ct) (.slice ac L.cons.length cc) (Zjx L q0 (decide (ci = 1)))) := fun c' => (uO.out c').below ((Z9 (W13.setCell ⟨gb, q0 * 4 + 2, none⟩ (.slice pv (ni - 1) c')).1.size (W13.setCell ⟨gb, q0 * 4 + 2, none⟩ (.slice pv (ni - 1) c'))).drew)
    have qW := Z0 uR
    have sG := Z0 uS
    have sH := Z0 uT
    clear qV uR uS uT
    go_region
    clear uK sC qS uO d1 d2 c0 rS
    obtain ⟨W14, uU⟩ : ∃ W, W = W13.drew := ⟨_, rfl⟩
    rw [<- uU] at d1' d2' sF qW sG sH ⊢
    clear uU
    go_upto_region 26 with fail
    rw [<- vH.out]
    obtain ⟨W15, uV⟩ : ∃ W, W = W14.setCell ⟨gb, q0 * 4 + 2, none⟩ (.slice pv (ni - 1) (ci - 1)) := ⟨_, rfl⟩
    have sI := sF.out (ci - 1)
    have vK : W4.1.size <= gb := by have := uP.out; have := pX.out.size; omega
    have qX : Below W4.1.size W4 (W14.setCell ⟨gb, q0 * 4 + 2, none⟩ (.slice pv (ni - 1) (ci - 1))) := sH.out.setCell vK _
    have uW : gb ≠ A /\ gb ≠ g := by have := uP.out; have := pY.out; have := qW.out.lt; omega
    have qY : ManS (W14.setCell ⟨gb, q0 * 4 + 2, none⟩ (.slice pv (ni - 1) (ci - 1))) W4.1.size A g cv X2 := qW.out.from (ZeU (Ne.symm uW.1) _) (ZeU (Ne.symm uW.2) _)
    have qC : (W14.setCell ⟨gb, q0 * 4 + 2, none⟩ (.slice pv (ni - 1) (ci - 1))).1[G]? = _ := (ZeU (Ne.symm vJ.out) _).trans sG.out.box
    rw [<- uV] at sI qX qY qC ⊢
    have pH := pA.out W15 qX
    obtain ⟨t0, t1⟩ := pH.t
    obtain ⟨m0, m1, m2, m3⟩ := pH.m
    obtain ⟨k0, k1, k2, k3⟩ := pH.k
    obtain ⟨l0, l1, l2, l3⟩ := pH.lt
    have c0 := Kaa _ _ 0 _ _ _ qC
    have c1 := Kaa _ _ 1 _ _ _ qC
    have c2 := Kaa _ _ 2 _ _ _ qC
    obtain ⟨a0, a1, a2, a3, a4, a5, a6, a7, a8, a9, a10, a11⟩ := Z1w qY.cells
    have HR := Z0 (uQ.out W15 _ _ _ _ _ _ _ _ _ pH.rt pH.rl pH.rp (Z92 pH.rz pU) sI qY.rd)
    have sJ := Z0 qX
    clear uV pH sI qY qC qX d1' d2' sF qW sG sH uQ pX
    go_wp2_with fail
    refine HR.out.mono ?_
    clear HR t0 t1 m0 m1 m2 m3 k0 k1 k2 k3 l0 l1 l2 l3 c0 c1 c2 a0 a1 a2 a3 a4 a5 a6 a7 a8 a9 a10 a11
    rintro e w16 ⟨rfl, uX⟩
    have vL := (pA.out w16 (Z01 sJ.out sJ.out.size uX)).bw
    clear uX sJ
    go_wp2_with fail
    go_ret
    exact ⟨rfl, vL⟩
end Go.Proofs.YtlgajongmkhcnaaGreatDoor
