import Derived.Test.YtlgajongmkhcnaaGreatDoorQUY
import Derived.Test.YtlgajongmkhcnaaGreatDoorQUX
import Derived.BigQuiet
import Derived.BigRegion
import Derived.Deep.DeepCutAuto
import Derived.Deep.CutBlock
set_option maxRecDepth 100000
set_option linter.unusedVariables false
set_option linter.unusedSimpArgs false
set_option maxHeartbeats 32000000
namespace Go.Proofs.YtlgajongmkhcnaaGreatDoor
open Go.RowKit Go.Sort
theorem ZeC (n : Nat) (ps : List UInt8) (s : Int) (b : Nat) (vp vl vc vs : Value) (ls : List Lev) (l : List UInt16) (k : Pck) (w : World) (ht : TabW w) (h : Mk27 n ps ls l) (hT : ZkU n ps #[.int .u32 (n : Nat), vp] w)
 (hM : ZjV #[.int .u32 s, vl, vc, vs, .int .i64 300, .int .u32 b] ls l (Z3W ls (Z04 l)) k w) (hk : Z7K k = true) (pV : ∀ p ∈ (Z04 l).ps, p.grams <= k.grams) :
 Calls Tryz.prog 3 #[.int .u32 (n : Nat), .int .u32 s, vp, vl, vc, vs, .int .u32 b] w fun e w' => e = .returned (.bool true) /\ Below w.1.size w w' := by
 have sX := Z0 (fun W hW => Z7C W hW)
 have HT := Z0 hT
 have HM := Z0 hM
 have rI := Z0 ht
 have qB : (Z04 l).ps.length = l.length := Z2A _ _
 have vZ := h.hp.few
 rw [qB] at vZ
 have xR := Z0y h.hp.right
 have pF := Z6U ls (Z04 l)
 have pG := h.hp.nums
 obtain ⟨zs, rJ⟩ : ∃ zs, zs = Z3W ls (Z04 l) := ⟨_, rfl⟩
 have rK : Zb3 ls (Z04 l) zs k = 0 := by rw [rJ]; exact Za5 h.hp hk
 rw [<- rJ] at HM pF pG
 obtain ⟨L, pW⟩ : ∃ L, L = ZbD ls l zs k := ⟨_, rfl⟩
 obtain ⟨M, pJ⟩ : ∃ M, M = Z5y n ps ls l zs L := ⟨_, rfl⟩
 have sY : Hid (ZjU n ps ls l zs k M) := by rw [pJ, pW]; exact ZiB h pF pG rK hk pV
 have sZ : Hid (Zkv ls l zs k L) := by rw [pW]; exact Zkc h pF pG rK hk pV
 have wA : Hid (∃ r, (Z1H n ps).rates[0]? = some r /\ r.bar = ((Z2M n : Nat) : Int)) := ⟨_, Z3 (Za2 n ps), by rw [Zbh]; rfl⟩
 obtain ⟨pc, qO⟩ : ∃ pc : Nat -> Int, pc = fun i => (plN n ps ls (Z04 l) zs i).cents := ⟨_, rfl⟩
 obtain ⟨pg, qP⟩ : ∃ pg : Nat -> Int, pg = fun i => ((Z04 l).ps.getD i ⟨0, 0, ⟨#[]⟩, 0, false⟩).grams := ⟨_, rfl⟩
 have tA : Hid (∀ W vr vz v vp' vn, RdTar W vr vz (Z1H n ps) -> RdLevs W v ls -> RdPces W vp' (Z04 l).ps -> RdInts W vn zs -> Calls Tryz.prog 13 #[.agg #[vr, vz], v, ZdO vp', vn] W fun e w' => ∃ g, e = .returned (.tuple #[.slice (some ⟨g, 0, none⟩) l.length l.length, .int .i64 0]) /\ Below W.1.size W w' /\ g < w'.1.size /\ ∀ i, i < l.length -> w'.cell? ⟨g, i, none⟩ = some (.int .i64 (pc i))) := by
  intro W vr vz v vp' vn h1 h2 h3 h4
  have qC := h.post pF pG W h1 h2 h3 h4
  rw [qB] at qC
  refine qC.mono ?_
  rintro e w' ⟨g, rfl, hb, hg, ho⟩
  refine ⟨g, rfl, hb, (ho.lt g rfl).2, fun i hi => ?_⟩
  rw [ho.cellAt i (by omega), Z4A hi, qO]
 have tB : M.lines.length = ls.length := by rw [pJ]; exact ZcK ..
 have tC : M.total.level = (ls.length : Int) := by rw [pJ]; exact Z44 _ _
 have tD : Hid (∀ i (hi : i < (M.lines ++ [M.total]).length), SumLn n ls i ((M.lines ++ [M.total])[i])) := by rw [pJ]; exact Z9K h pF pG L
 have wB : Hid (∀ q, q < 7 -> lnN M.total (q + 1) = (M.lines.map (fun x => lnN x (q + 1))).sum) := by rw [pJ]; exact fun q hq => ZgY (Zks hq) L
 have rL : Hid (M.total.cents = ZgN pc l.length /\ M.total.grams = ZgN pg l.length /\ M.total.pieces = (l.length : Int)) := by
  have ha := Zh0 (n := n) (ps := ps) pF pG L
  rw [qB] at ha
  rw [pJ, qO, qP]
  exact ha
 have wC : Hid (∀ j, j < ls.length -> ∃ y, M.lines[j]? = some y /\ y.grams = Z7A L.buns j) := by rw [pJ, pW]; exact fun j hj => ZgZ h pF pG hk pV _ j hj
 have tE : Hid (∀ b ∈ L.buns, (∃ z : Nat, z < ls.length /\ b.lvl = (z : Int)) /\ 0 <= b.grams /\ b.grams <= 1000000) := by rw [pW]; exact ZjF h pF pG hk pV
 have rM : Hid (M.buns = (L.buns.length : Int) /\ M.tras = (L.tras.length : Int) /\ M.cons = (L.cons.length : Int)) := by rw [pJ]; exact ⟨rfl, rfl, rfl⟩
 have tF : ∀ i (hi : i < M.lines.length), LnIn 100000000 M.lines[i] := fun i hi => by
  have h1 := (tD.out i (by rw [ZC]; omega)).inn
  rw [Kbl hi] at h1
  exact h1
 have wD : Hid (∀ q, q < 7 -> ∀ k, k <= M.lines.length -> 0 <= Z6C M.lines k q /\ Z6C M.lines k q <= k * 100000000) := fun q hq k hk => ZeH tF hq k hk
 clear tF
 have tG : Hid (∀ i, i < l.length -> 0 <= pc i /\ pc i <= 1000) := by
  rw [qO]
  exact fun i hi => ((Za7 (Z2j l) h.ct (by omega)).1).cents
 have tH : Hid (∀ i, i < l.length -> 0 <= pg i /\ pg i <= 1000) := by
  rw [qP]
  exact fun i hi => ((Za7 (n := n) (ps := ps) (Z2j l) h.ct (zs := zs) (by omega)).1).grams
 have wE : Hid (∀ i (hi : i < (Z04 l).ps.length), (Z04 l).ps[i].grams = pg i) := fun i hi => by rw [qP]; simp [Z2, Z3 hi]
 have rN : zs.length = l.length := by omega
 have xS : L.buns.length <= 100000 := by rw [pW]; exact (ZbC h.hp pF pG hk pV).1
 clear pJ pW qO qP
 have pC := Z0 tB
 have wF := Z0 tC
 have wG : Hid ((Z04 l).ps.length = l.length) := qB
 have xT := Z0 (ZgG n)
 clear rK rJ pF pG qB hM hT ht pV hk tB tC
 go_enter Tryz.func3, Tryz.ntmps3
 go_wp2_with fail
 refine (sX.out _ rI.out).mono ?_
 rintro e w1 ⟨rfl, qQ⟩
 go_wp2_with fail
 refine (HT.out _ qQ).mono ?_
 rintro e w2 ⟨ar, cr, az, cz, rfl, tI, tJ⟩
 have qR := Z01 qQ qQ.size tI
 clear qQ tI
 go_wp2_with fail
 obtain ⟨W2, pX⟩ : ∃ W2, W2 = w2.alloc (.cells #[.slice ar (Z1H n ps).rates.length cr, .slice az (Z1H n ps).zones.length cz] 29) := ⟨_, rfl⟩
 rw [<- pX]
 have b2 : Below w2.1.size w2 W2 := by rw [pX]; exact (Z9 _ w2).alloc (Z1 _) _
 refine (HM.out W2 (Z01 qR qR.size b2)).mono ?_
 rintro e w3 ⟨al, cl, ap, cp, gz, rfl, qS, tK, tL, tM, rO⟩
 have t0 : W2.1[w2.1.size]? = some (.cells #[.slice ar (Z1H n ps).rates.length cr, .slice az (Z1H n ps).zones.length cz] 29 (0, 0)) := by rw [pX]; exact Z02 w2 _
 have s2 : W2.1.size = w2.1.size + 1 := by rw [pX]; simp
 have q3 := (qS.block _ (by omega)).trans t0
 have y0 := Kaa _ _ 0 _ _ _ q3
 have y1 := Kaa _ _ 1 _ _ _ q3
 have l3 : w2.1.size < w3.1.size := by have := qS.size; omega
 have tN := Z0 qR
 have tO := Z0 tJ
 have tP := Z0 pX
 have tQ := Z0 qS
 have tR := Z0 tK
 have tS := Z0 tL
 have tT := Z0 tM
 clear qR tJ pX qS tK tL tM rO t0 q3 b2 s2 sX HT HM
 go_wp2_with fail
 obtain ⟨W4, rP⟩ : ∃ W, W = (w3.alloc (.cells #[.int .u8 1, .int .u8 1, .string ⟨#[49, 48, 48, 50, 51]⟩, .slice ap l.length cp] 34)).alloc (.cells #[.int .i64 k.pieces, .int .i64 k.grams, .int .i64 k.bundles, .int .i64 k.trays] 37) := ⟨_, rfl⟩
 rw [<- rP]
 have pP := Z0 (Keep.of (k := k) rI.out tN.out tO.out tP.out tQ.out tR.out tS.out tT.out rP).1
 obtain ⟨T, tU⟩ : ∃ T, T = w2.1.size := ⟨_, rfl⟩
 obtain ⟨X, tV⟩ : ∃ X, X = w3.1.size := ⟨_, rfl⟩
 rw [<- tU] at y0 y1 l3 pP ⊢
 rw [<- tV] at l3 pP ⊢
 clear rP y0 y1 rI tN tO tP tQ tR tS tT tU tV
 have qD := pP.out W4 (Z9 _ _)
 refine (sY.out W4 _ _ _ _ _ qD.rt qD.rl qD.rp (Z92 qD.rz rN)).mono ?_
 clear qD sY
 rintro e w5 ⟨av, cv, rfl, rQ, tW⟩
 have tX : 0 < M.lines.length := by have := pC.out; omega
 obtain ⟨W6, qT⟩ : ∃ W, W = w5.alloc (.cells #[.slice av M.lines.length cv, .int .i64 M.total.level, .int .i64 M.total.pieces, .int .i64 M.total.barred, .int .i64 M.total.grams, .int .i64 M.total.base, .int .i64 M.total.bar, .int .i64 M.total.saved, .int .i64 M.total.cents, .int .i64 M.buns, .int .i64 M.tras, .int .i64 M.cons] 44) := ⟨_, rfl⟩
 obtain ⟨g, rfl, tY, b6, s6⟩ := ZcJ tW rfl tX qT
 have rR := Z01 rQ rQ.size b6
 have pH := pP.out W6 rR
 rw [qT] at pH
 obtain ⟨m0, m1, m2, m3⟩ := pH.m
 obtain ⟨k0, k1, k2, k3⟩ := pH.k
 obtain ⟨l0, l1, l2, l3⟩ := pH.lt
 have rS := Z0 tY
 have wH := Z0 b6
 have rT := Z0 rR
 have wI := Z0 s6
 have tZ := Z0 qT
 clear pH rQ tW b6 rR s6 qT tY tX
 go_wp2_with fail
 rw [<- tZ.out]
 obtain ⟨A, hA⟩ : ∃ A, A = w5.1.size := ⟨_, rfl⟩
 rw [<- hA] at rS wI ⊢
 clear m0 m1 m2 m3 k0 k1 k2 k3 l0 l1 l2 l3 tZ hA
 have pH := pP.out W6 rT.out
 refine (sZ.out W6 _ _ _ pH.rl pH.rp (Z92 pH.rz rN)).mono ?_
 clear pH sZ
 rintro e w7 ⟨ab, cb, at', ct, ac, cc, rfl, qU, o1, o2, o3⟩
 obtain ⟨W8, qV⟩ : ∃ W, W = w7.alloc (.cells #[.slice ab L.buns.length cb, .slice at' L.tras.length ct, .slice ac L.cons.length cc] 52) := ⟨_, rfl⟩
 obtain ⟨rU, b8, s8⟩ := ZhO o1 o2 o3 qU.size qV
 have rV := Z01 qU qU.size b8
 have qW := Z01 rT.out rT.out.size rV
 have pY := rS.out.below rV
 have pT := pP.out W8 qW
 have pK := pT
 have rW := pY
 have qE := rU
 rw [qV] at pK rW qE
 obtain ⟨t0, t1⟩ := pK.t
 obtain ⟨m0, m1, m2, m3⟩ := pK.m
 obtain ⟨k0, k1, k2, k3⟩ := pK.k
 obtain ⟨l0, l1, l2, l3⟩ := pK.lt
 have c0 := Kaa _ _ 0 _ _ _ qE.box
 have c1 := Kaa _ _ 1 _ _ _ qE.box
 have c2 := Kaa _ _ 2 _ _ _ qE.box
 obtain ⟨a0, a1, a2, a3, a4, a5, a6, a7, a8, a9, a10, a11⟩ := Z1w rW.cells
 have wJ := pT
 have wK := qW
 have rX := Z0 rU
 have pZ := Z0 pY
 have rY := Z0 qW
 have uA := Z0 qV
 have HR := Z0 (tA.out W8 _ _ _ _ _ pT.rt pT.rl pT.rp (Z92 pT.rz rN))
 clear qV pK rW qE pT wJ wK qU o1 o2 o3 b8 rV qW rU pY s8 rS wH tA
 go_wp2_with fail
 rw [<- uA.out]
 refine HR.out.mono ?_
 clear HR t0 t1 m0 m1 m2 m3 k0 k1 k2 k3 l0 l1 l2 l3 c0 c1 c2 a0 a1 a2 a3 a4 a5 a6 a7 a8 a9 a10 a11
 rintro e w9 ⟨gp, rfl, qX, wL, uB⟩
 obtain ⟨G, hG⟩ : ∃ G, G = w7.1.size := ⟨_, rfl⟩
 rw [<- hG] at rX ⊢
 have rZ := rX.out.below qX
 have sA := pZ.out.below qX
 have sB := Z01 rY.out rY.out.size qX
 have pD : Hid (∀ W, Below w9.1.size w9 W -> Keep w n ps ls l.length (Z04 l).ps zs k T X gz ar az al ap cr cz cl cp W /\ ManS W W4.1.size A g cv M /\ LodS W W6.1.size G (.slice ab L.buns.length cb) (.slice at' L.tras.length ct) (.slice ac L.cons.length cc) L /\ (∀ i, i < l.length -> W.cell? ⟨gp, i, none⟩ = some (.int .i64 (pc i))) /\ G < W.1.size /\ A < W.1.size) :=
  fun W hW => ⟨pP.out W (Z01 sB sB.size hW), sA.below hW, rZ.below hW, fun i hi => (hW.cell (p := ⟨gp, i, none⟩) wL).trans (uB i hi), by have := hW.size; have := (Z5.1 rZ.box).1; omega, by have := hW.size; have := (Z5.1 sA.cells).1; omega⟩
 clear hG rZ sA sB qX rX pZ rY uA uB pP
 obtain ⟨uC, uD, _, _, _, wM⟩ := pD.out w9 (Z9 _ _)
 obtain ⟨gl, ol, rfl⟩ : ∃ gl ol, al = some ⟨gl, ol, none⟩ := by
  obtain ⟨al', lc', sC, sD⟩ := uC.rl
  injection sC with v1 v2 v3
  obtain ⟨gl, ol, qF, _⟩ := sD (by omega)
  exact ⟨gl, ol, v1.trans qF⟩
 have uE : Hid (∀ W, Below w9.1.size w9 W -> ∀ q (hq : q < ls.length), W.cell? ⟨gl, ol + q * 5 + 4, none⟩ = some (.int .i64 ls[q].cents)) := fun W hW q hq => by
  obtain ⟨al', lc', sC, sD⟩ := (pD.out W hW).1.rl
  injection sC with v1 v2 v3
  subst v1
  obtain ⟨gl', ol', qF, _, wN⟩ := sD (by omega)
  injection qF with qF
  injection qF with e1 e2
  subst e1
  subst e2
  obtain ⟨lv, _, wO⟩ := wN q hq
  exact wO.2.2.2.2
 obtain ⟨a0, a1, a2, a3, a4, a5, a6, a7, a8, a9, a10, a11⟩ := Z1w uD.cells
 rw [pC.out] at a0
 rw [wF.out] at a1
 clear uC uD a2 a3 a4 a5 a6 a7 a8 a9 a10 a11
 go_upto_region 11 with fail
 clear a0 a1
 obtain ⟨Z, hZ⟩ : ∃ Z, Z = w9.1.size := ⟨_, rfl⟩
 obtain ⟨W10, qG⟩ : ∃ W, W = w9.alloc (.cells #[.int .i64 0, .int .i64 0, .int .i64 0, .int .i64 0, .int .i64 0, .int .i64 0, .int .i64 0] 57) := ⟨_, rfl⟩
 have qY : Below Z w9 W10 := by rw [qG, hZ]; exact (Z9 _ w9).alloc (Z1 _) _
 have wP : W10.1.size = Z + 1 := by rw [qG, hZ]; simp
 have uF : SevAt W10 Z (Z6C M.lines 0) := by rw [qG, hZ]; exact Z02 w9 _
 rw [<- qG, <- hZ]
 rw [<- hZ] at pD uE wM
 refine Z2O (ops' := Z6j) (by kernel_rfl) (Zhi _ W10 _ (A := A) (g := g) (n := ls.length) (cv := cv) (xs := M.lines) (y := M.total) (x1 := 0) (x2 := 0) (x3 := 0) (by simp) (fun _ _ _ _ _ h => h) rfl pC.out.symm (by rw [pC.out]; omega) (by omega) ?_ ?_ ?_)
 ·intro w' hw'
  obtain ⟨_, hS, _⟩ := pD.out w' (Z01 qY (by omega) hw')
  obtain ⟨a0, a1, a2, a3, a4, a5, a6, a7, a8, a9, a10, a11⟩ := Z1w hS.cells
  rw [pC.out] at a0
  exact ⟨a0, a1, a2, a3, a4, a5, a6, a7, a8⟩
 ·intro w' hw' j u hj
  exact ZfE (pD.out w' (Z01 qY (by omega) hw')).2.1 j u hj
 intro a' g9 cap9 w11 uG uH uI uJ uK uL sE sF
 rw [Z2T (a' := a') [102, 103, 104, 105, 106, 107, 108, 109, 110, 111] uG (fun n hn => uH n (by simp at hn; omega)) uI]
 simp only [Z1K, uJ, uK, uL]
 generalize Act.eval a' (.tmp 102) = u102
 generalize Act.eval a' (.tmp 103) = u103
 generalize Act.eval a' (.tmp 104) = u104
 generalize Act.eval a' (.tmp 105) = u105
 generalize Act.eval a' (.tmp 106) = u106
 generalize Act.eval a' (.tmp 107) = u107
 generalize Act.eval a' (.tmp 108) = u108
 simp only [Act.put, Kci, Kdh, Kcy]
 have qZ : (M.lines ++ [M.total]).length = ls.length + 1 := by rw [ZC, pC.out]; rfl
 have wQ : Hid (∀ i (hi : i < (M.lines ++ [M.total]).length) j u, (lnC ((M.lines ++ [M.total])[i]))[j]? = some u -> w11.cell? ⟨g9, i * 8 + j, none⟩ = some u) := by
  refine Zfp (base := W10.1.size) (n := ls.length + 1) (cap := cap9) ?_ qZ.symm
  show w11.ownsRow _ _ 8 _ (M.lines ++ [M.total]).length _
  rw [qZ, Kai]
  simpa using sF
 obtain ⟨wR, uM⟩ := sF.lt g9 rfl
 have uN : Hid (Below Z w9 w11) := Z01 qY (by omega) sE
 have uO : Hid (SevAt w11 Z (Z6C M.lines 0)) := uF.from (sE.block Z (by omega))
 have xU : Z < g9 := by omega
 have wS := Z0 qZ
 have uP := Z0 uM
 clear uG uH uI uJ uK uL sE sF qY wP uF qG wR uM qZ
 have HZ := Z0 hZ
 clear hZ
 go_wp2_with fail
 go_loopw [111] (fun i wr => ∃ kk : Nat, kk <= ls.length + 1 /\ i = .int .i64 kk /\ Below Z w9 wr /\ wr.1[g9]? = w11.1[g9]? /\ g9 < wr.1.size /\ SevAt wr Z (Z6C M.lines kk)) (fun i _ => ls.length + 1 - (intOf i).toNat)
 case atStart => exact ⟨0, ZE _, rfl, uN.out, rfl, uP.out, uO.out⟩
 case round =>
  clear uN uO
  obtain ⟨wa, wT⟩ : ∃ x, x = wr := ⟨_, rfl⟩
  subst wT
  obtain ⟨kk, xV, rfl, hB, hg, sG, hS⟩ := hrel
  have HB := Z0 hB
  have HG := Z0 hg
  have HS := Z0 hS
  clear hB hg hS
  by_cases wU : kk < ls.length + 1
  ·have pK : kk < (M.lines ++ [M.total]).length := by rw [wS.out]; exact wU
   have uQ := tD.out kk pK
   have pI := wQ.out kk pK
   have sH : kk < ls.length -> (M.lines ++ [M.total])[kk] = M.lines.getD kk (Z1m 0) := fun hh => by
    have hh' : kk < M.lines.length := by rw [pC.out]; exact hh
    rw [Kbl hh', Z2, Z3 hh']; rfl
   generalize (M.lines ++ [M.total])[kk] = x at uQ pI sH
   obtain ⟨lv, c1, c2, c3, c4, c5, c6, c7⟩ := x
   obtain ⟨q1, ⟨q2, q3, q4⟩, ⟨b1, b2, b3, b4, b5, b6, b7⟩, q5⟩ := uQ
   dsimp only at q1 q2 q3 q4 q5 b1 b2 b3 b4 b5 b6 b7
   subst q1
   subst q2
   subst q4
   have pL := fun o => ZjE HG.out o
   have r0 : wa.cell? ⟨g9, kk * 8, none⟩ = some (.int .i64 kk) := (pL _).trans (pI 0 _ rfl)
   have r1 : wa.cell? ⟨g9, kk * 8 + 1, none⟩ = some (.int .i64 c1) := (pL _).trans (pI 1 _ rfl)
   have r2 : wa.cell? ⟨g9, kk * 8 + 2, none⟩ = some (.int .i64 c2) := (pL _).trans (pI 2 _ rfl)
   have r3 : wa.cell? ⟨g9, kk * 8 + 3, none⟩ = some (.int .i64 c3) := (pL _).trans (pI 3 _ rfl)
   have r4 : wa.cell? ⟨g9, kk * 8 + 4, none⟩ = some (.int .i64 c4) := (pL _).trans (pI 4 _ rfl)
   have r5 : wa.cell? ⟨g9, kk * 8 + 5, none⟩ = some (.int .i64 (c2 * ((Z2M n : Nat) : Int))) := (pL _).trans (pI 5 _ rfl)
   have r6 : wa.cell? ⟨g9, kk * 8 + 6, none⟩ = some (.int .i64 c6) := (pL _).trans (pI 6 _ rfl)
   have r7 : wa.cell? ⟨g9, kk * 8 + 7, none⟩ = some (.int .i64 (c4 - c2 * ((Z2M n : Nat) : Int) - c6)) := (pL _).trans (pI 7 _ rfl)
   have e1 : decide ((kk : Int) < (ls.length : Int) + 1) = true := Kac (by omega)
   have wV := Z0 sH
   have wW := Z0 q5
   clear pI sH pL q5
   go_upto_region 14 with fail
   clear r0 r1 r2 r3 r4 r5 r6 r7 e1
   obtain ⟨W14, pU⟩ : ∃ W, W = wa.alloc (.cells #[.int .i64 kk, .int .i64 c1, .int .i64 c2, .int .i64 c3, .int .i64 c4, .int .i64 (c2 * ((Z2M n : Nat) : Int)), .int .i64 c6, .int .i64 (c4 - c2 * ((Z2M n : Nat) : Int) - c6)] 42) := ⟨_, rfl⟩
   have pM : W14.1[wa.1.size]? = some (.cells #[.int .i64 kk, .int .i64 c1, .int .i64 c2, .int .i64 c3, .int .i64 c4, .int .i64 (c2 * ((Z2M n : Nat) : Int)), .int .i64 c6, .int .i64 (c4 - c2 * ((Z2M n : Nat) : Int) - c6)] 42 (0, 0)) := by rw [pU]; exact Z02 wa _
   have sI : Z < wa.1.size := (Z5.1 HS.out).1
   have sJ : Below Z w9 W14 := by rw [pU]; exact HB.out.alloc (Kc0 sI) _
   have uR : W14.1[g9]? = w11.1[g9]? := by rw [pU]; exact (ZB _ _ _ sG).trans HG.out
   have uS : SevAt W14 Z (Z6C M.lines kk) := HS.out.from (by rw [pU]; exact ZB _ _ _ sI)
   have sK : W14.1.size = wa.1.size + 1 := by rw [pU]; simp
   rw [<- pU]
   obtain ⟨D, hD⟩ : ∃ D, D = wa.1.size := ⟨_, rfl⟩
   rw [<- hD] at pM sK sI sG ⊢
   clear pU hD
   obtain ⟨pB, _⟩ := pD.out W14 sJ
   obtain ⟨t0, t1⟩ := pB.t
   obtain ⟨a', c', hv, hc⟩ := pB.rt.r
   injection hv with v1 v2 v3
   subst v1
   have rA := Za2 n ps
   obtain ⟨gr, orr, uT, xW, qH⟩ := hc rA
   obtain ⟨sv, _, _, _, sL⟩ := qH 0 rA
   have uU : ((Z1H n ps).rates[0]'rA).bar = ((Z2M n : Nat) : Int) := by
    obtain ⟨r, h1, h2⟩ := wA.out
    rw [Z3 rA] at h1
    injection h1 with h1
    rw [h1]; exact h2
   rw [uU] at sL
   simp only [Kc1, Kdc] at sL
   rw [uT] at t0
   have x0 := Kaa _ _ 0 _ _ _ pM
   have x2 := Kaa _ _ 2 _ _ _ pM
   have x4 := Kaa _ _ 4 _ _ _ pM
   have x5 := Kaa _ _ 5 _ _ _ pM
   have x6 := Kaa _ _ 6 _ _ _ pM
   have x7 := Kaa _ _ 7 _ _ _ pM
   have d3 : decide (c4 - c2 * ((Z2M n : Nat) : Int) - c6 < 0) = false := Kad (by omega)
   have uV := Z0 pM
   have uW := Z0 sJ
   have uX := Z0 uR
   have uY := Z0 uS
   clear pM sJ uR uS pB hc qH uU uT t1 v2 v3
   go_quiet (fail)
   clear x0 x2 x4 x5 x6 x7 t0 sL d3
   obtain ⟨W15, rB⟩ : ∃ W, W = W14.drewN nq := ⟨_, rfl⟩
   have qI : W15.1 = W14.1 := by rw [rB]; rfl
   have pQ : Hid (W15.1[D]? = some (.cells #[.int .i64 kk, .int .i64 c1, .int .i64 c2, .int .i64 c3, .int .i64 c4, .int .i64 (c2 * ((Z2M n : Nat) : Int)), .int .i64 c6, .int .i64 (c4 - c2 * ((Z2M n : Nat) : Int) - c6)] 42 (0, 0))) := by show _ = _; rw [qI]; exact uV.out
   have uZ : Hid (Below Z w9 W15) := by rw [rB]; exact below_drewN uW.out
   have vA : Hid (W15.1[g9]? = w11.1[g9]?) := by show _ = _; rw [qI]; exact uX.out
   have vB : Hid (SevAt W15 Z (Z6C M.lines kk)) := uY.out.from (by rw [qI])
   have rC : W15.1.size = D + 1 := by rw [qI]; exact sK
   rw [<- rB]
   clear rB qI uV uW uX uY sK
   by_cases rD : kk < ls.length
   ·have d2 : decide ((kk : Int) < (ls.length : Int)) = true := Kac (by omega)
    have x1 := Kaa _ _ 1 _ _ _ pQ.out
    have x2 := Kaa _ _ 2 _ _ _ pQ.out
    have x3 := Kaa _ _ 3 _ _ _ pQ.out
    have x4 := Kaa _ _ 4 _ _ _ pQ.out
    have x5 := Kaa _ _ 5 _ _ _ pQ.out
    have x6 := Kaa _ _ 6 _ _ _ pQ.out
    have x7 := Kaa _ _ 7 _ _ _ pQ.out
    have wX : Hid (LnIn 100000000 ⟨(kk : Int), c1, c2, c3, c4, c2 * ((Z2M n : Nat) : Int), c6, c4 - c2 * ((Z2M n : Nat) : Int) - c6⟩) := ⟨b1, b2, b3, b4, b5, b6, b7⟩
    have wY : Hid (lnN (M.lines.getD kk (Z1m 0)) = lnN ⟨(kk : Int), c1, c2, c3, c4, c2 * ((Z2M n : Nat) : Int), c6, c4 - c2 * ((Z2M n : Nat) : Int) - c6⟩) := by show _ = _; rw [<- wV.out rD]
    go_wp2_with fail
    clear x1 x2 x3 x4 x5 x6 x7 d2
    obtain ⟨W17, qA⟩ : ∃ W, W = W15.alloc (.cells #[.int .i64 c1, .int .i64 c2, .int .i64 c3, .int .i64 c4, .int .i64 (c2 * ((Z2M n : Nat) : Int)), .int .i64 c6, .int .i64 (c4 - c2 * ((Z2M n : Nat) : Int) - c6)] 3) := ⟨_, rfl⟩
    obtain ⟨f, hf⟩ : ∃ f : Nat -> Int, f = fun q => lnN ⟨(kk : Int), c1, c2, c3, c4, c2 * ((Z2M n : Nat) : Int), c6, c4 - c2 * ((Z2M n : Nat) : Int) - c6⟩ (q + 1) := ⟨_, rfl⟩
    have vC : Hid (W17.1[W15.1.size]? = some (.cells (Zef f) 3 (0, 0))) := by show _ = _; rw [qA, hf]; exact Z02 W15 _
    have HF : Hid (∀ q, q < 7 -> 0 <= f q /\ f q <= 100000000) := fun q hq => by rw [hf]; exact ZiD wX.out hq
    have wZ : Hid (∀ q, f q = lnN (M.lines.getD kk (Z1m 0)) (q + 1)) := fun q => by rw [hf, wY.out]
    have rE : Hid (∀ b, b < W15.1.size -> W17.1[b]? = W15.1[b]?) := fun b hb => by rw [qA]; exact ZB _ _ _ hb
    have vD : Hid (Below Z w9 W17) := by rw [qA]; exact uZ.out.alloc (by rw [rC]; omega) _
    have vE : Hid (SevAt W17 Z (Zed M.lines kk 0)) := (vB.out.from (rE.out Z (by rw [rC]; omega))).to (fun q _ => (ZgK M.lines kk q).symm)
    have xX : W17.1.size = D + 1 + 1 := by rw [qA]; simp [rC]
    rw [<- qA]
    rw [rC] at vC rE
    clear qA hf
    go_loopw [171] (fun i wq => ∃ j : Nat, j <= 7 /\ i = .int .i64 j /\ (∀ b, b ≠ Z -> wq.1[b]? = W17.1[b]?) /\ Below Z w9 wq /\ SevAt wq Z (Zed M.lines kk j)) (fun i _ => 7 - (intOf i).toNat)
    case atStart => exact ⟨0, ZE _, rfl, fun b _ => rfl, vD.out, vE.out⟩
    case round =>
     clear vD vE
     obtain ⟨wb, sM⟩ : ∃ x, x = wr := ⟨_, rfl⟩
     subst sM
     obtain ⟨j, hj, rfl, hE, pA, vF⟩ := hrel
     have HE := Z0 hE
     have pN := Z0 pA
     have rF := Z0 vF
     clear hE pA vF
     by_cases qJ : j < 7
     ·have rc : wb.cell? ⟨D + 1, j, none⟩ = some (.int .i64 (f j)) := (ZjE (HE.out (D + 1) (by omega)) j).trans ((Kaa _ _ j _ _ _ vC.out).trans (Zit f qJ))
      have zc := rF.out.cell qJ
      rw [ZjK] at zc
      have zf := rF.out.free j
      have xY := HF.out j qJ
      have xZ := wD.out j qJ kk (by rw [pC.out]; omega)
      have HN : Hid (SevAt (wb.setCell ⟨Z, j, none⟩ (.int .i64 (Z6C M.lines kk j + f j))) Z (Zed M.lines kk (j + 1))) := (rF.out.set qJ _).to (fun q _ => Zii M.lines kk j q (wZ.out j))
      have d4 : decide ((j : Int) < 7) = true := Kac (by omega)
      go_wp2_with fail
      go_roundw
      case rel => exact ⟨j + 1, by omega, by go_num, fun b hb => (ZeU hb _).trans (HE.out b hb), pN.out.setCell (p := ⟨Z, j, none⟩) (Z1 _) _, HN.out⟩
      case measure => simp [intOf]; omega
     ·obtain rfl : j = 7 := by omega
      have sN : wb.1[D]? = some (.cells #[.int .i64 kk, .int .i64 c1, .int .i64 c2, .int .i64 c3, .int .i64 c4, .int .i64 (c2 * ((Z2M n : Nat) : Int)), .int .i64 c6, .int .i64 (c4 - c2 * ((Z2M n : Nat) : Int) - c6)] 42 (0, 0)) := (HE.out D (by omega)).trans ((rE.out D (by omega)).trans pQ.out)
      have x1 := Kaa _ _ 1 _ _ _ sN
      have x6 := Kaa _ _ 6 _ _ _ sN
      have xA := uE.out wb pN.out kk rD
      have vG := wW.out rD
      have rO := (ZjE (HE.out g9 (by omega)) 0)
      have sO : wb.1[g9]? = w11.1[g9]? := (HE.out g9 (by omega)).trans ((rE.out g9 (by omega)).trans vA.out)
      have qK : g9 < wb.1.size := by
       have h1 : g9 < w11.1.size := uP.out
       have h2 : w11.1[g9]? ≠ none := by rw [Kc8 h1]; simp
       rw [<- sO] at h2
       rcases Nat.lt_or_ge g9 wb.1.size with h | h
       ·exact h
       ·exact absurd (Kdi h) h2
      have pY : SevAt wb Z (Z6C M.lines (kk + 1)) := rF.out.to (fun q hq => Zec (by rw [pC.out]; exact rD) hq)
      have sP : c1 * ls[kk].cents = c6 := vG.symm
      have xB : 0 <= c1 * ls[kk].cents /\ c1 * ls[kk].cents <= 100000000 := by rw [sP]; exact b6
      have xC := Z0 sO
      have sQ := Z0 qK
      have pZ := Z0 pY
      have d5 : decide ((7 : Int) < 7) = false := by decide
      rw [<- sP] at x6
      generalize ls[kk].cents = cc at xA x6 xB
      clear sN vG rO sO qK pY sP
      go_upto_region 22 with fail
      go_quiet (fail)
      go_wp2_with fail
      go_roundw
      case rel => exact ⟨kk + 1, by omega, by go_num, below_drewN pN.out, xC.out, sQ.out, pZ.out⟩
      case measure => simp [intOf]; omega
   ·have d2 : decide ((kk : Int) < (ls.length : Int)) = false := Kad (by omega)
    have vH : M.lines.length <= kk := by rw [pC.out]; omega
    have pZ : Hid (SevAt W15 Z (Z6C M.lines (kk + 1))) := vB.out.to (fun q _ => by rw [Z8U vH, Z8U (by omega)])
    have qK : g9 < W15.1.size := by omega
    have sQ := Z0 qK
    clear qK vH
    go_wp2_with fail
    go_roundw
    case rel => exact ⟨kk + 1, by omega, by go_num, uZ.out, vA.out, sQ.out, pZ.out⟩
    case measure => simp [intOf]; omega
  ·obtain rfl : kk = ls.length + 1 := by omega
   have e1 : decide (((ls.length + 1 : Nat) : Int) < (ls.length : Int) + 1) = false := Kad (by omega)
   have pR : SevAt wa Z (fun q => lnN M.total (q + 1)) := HS.out.to (fun q hq => by rw [Z8U (by rw [pC.out]; omega)]; exact (wB.out q hq).symm)
   have z0 := pR.cell (j := 0) (by decide)
   have z1 := pR.cell (j := 1) (by decide)
   have z2 := pR.cell (j := 2) (by decide)
   have z3 := pR.cell (j := 3) (by decide)
   have z4 := pR.cell (j := 4) (by decide)
   have z5 := pR.cell (j := 5) (by decide)
   have z6 := pR.cell (j := 6) (by decide)
   have hq := Zjd (fun q => lnN M.total (q + 1))
   unfold Zef at hq
   simp only [lnN, Ka0, Nat.reduceAdd] at z0 z1 z2 z3 z4 z5 z6 hq
   obtain ⟨pB, pS, pE, _, sR, xD⟩ := pD.out wa HB.out
   obtain ⟨a0, a1, a2, a3, a4, a5, a6, a7, a8, a9, a10, a11⟩ := Z1w pS.cells
   obtain ⟨m0, m1, m2, m3⟩ := pB.m
   clear pR pB pS pE a0 a1 a9 a10 a11 m0 m1 m2
   go_wp2_with fail
   clear z0 z1 z2 z3 z4 z5 z6 hq a2 a3 a4 a5 a6 a7 a8 m3 sR xD e1 sG
   have vI := Z0 HB.out
   clear HB HG HS
   go_loopw [31, 32, 222] (fun x y i wr => ∃ q : Nat, q <= l.length /\ i = .int .i64 q /\ x = .int .i64 (ZgN pc q) /\ y = .int .i64 (ZgN pg q) /\ Below Z w9 wr) (fun _ _ i _ => l.length - (intOf i).toNat)
   case atStart => exact ⟨0, ZE _, rfl, rfl, rfl, vI.out⟩
   case round =>
    clear vI
    obtain ⟨wb, sM⟩ : ∃ x, x = wr := ⟨_, rfl⟩
    subst sM
    obtain ⟨q, hq, rfl, rfl, rfl, pA⟩ := hrel
    have pN := Z0 pA
    by_cases pO : q < l.length
    ·obtain ⟨pB, _, _, qC, _, _⟩ := pD.out wb pA
     have po := qC q pO
     obtain ⟨a', c', hv, hc⟩ := pB.rp
     injection hv with v1 v2 v3
     subst v1
     have vJ : q < (Z04 l).ps.length := by rw [wG.out]; exact pO
     obtain ⟨gq, oq, rfl, yA, qH⟩ := hc (by omega)
     obtain ⟨p0, p1, p2, p3, p4⟩ := qH q vJ
     rw [wE.out q vJ] at p3
     have yB : gp < wb.1.size := Zib po
     generalize (Z04 l).ps[q] = pp at p0 p1 p2 p4
     have b1 := tG.out q pO
     have b2 := tH.out q pO
     have b3 := Zb8 tG.out q hq
     have b4 := Zb8 tH.out q hq
     have e2 : decide ((q : Int) < (l.length : Int)) = true := Kac (by omega)
     have rG := pA.size
     clear pB qC hc qH v2 v3 pA
     go_wp2_with fail
     go_roundw
     case rel => exact ⟨q + 1, by omega, by go_num, by rw [Z6D], by rw [Z6D], pN.out.alloc (by rw [HZ.out]; exact rG) _⟩
     case measure => simp [intOf]; omega
    ·obtain rfl : q = l.length := by omega
     have xE := run_make_row' (P := Tryz.prog) 35 3 (.int .i64 0) 8 Tryz.underlying35 ZfO rfl .i64 .i64 ls.length (by omega) (by omega) wb
     obtain ⟨_, _, pE, _, sR, _⟩ := pD.out wb pA
     have c0 := Kaa _ _ 0 _ _ _ pE.box
     have e2 : decide ((l.length : Int) < (l.length : Int)) = false := by simp
     have vK := Z4W wb ls.length
     have vL : Below Z w9 (wb.alloc (.cells (madeCells #[Value.int .i64 0] ls.length) 3)) := pA.alloc (by have := pA.size; rw [HZ.out]; exact this) _
     have sS : Hid (IntsAt (wb.alloc (.cells (madeCells #[Value.int .i64 0] ls.length) 3)) wb.1.size (Z3X L.buns ls.length 0)) := by rw [ZdE]; exact vK
     have sT := Z0 vL
     have rG : Z <= wb.1.size := by have := pA.size; rw [HZ.out]; exact this
     clear pA pE vK vL
     go_wp2_with fail
     clear c0 xE e2
     obtain ⟨R, hR⟩ : ∃ R, R = wb.1.size := ⟨_, rfl⟩
     obtain ⟨W12, sU⟩ : ∃ W, W = wb.alloc (.cells (madeCells #[Value.int .i64 0] ls.length) 3) := ⟨_, rfl⟩
     rw [<- hR, <- sU] at sS
     rw [<- sU] at sT ⊢
     rw [<- hR] at rG sR ⊢
     clear hR sU
     go_loopw [244] (fun i wr => ∃ q : Nat, q <= L.buns.length /\ i = .int .i64 q /\ Below Z w9 wr /\ IntsAt wr R (Z3X L.buns ls.length q)) (fun i _ => L.buns.length - (intOf i).toNat)
     case atStart => exact ⟨0, ZE _, rfl, sT.out, sS.out⟩
     case round =>
      clear sT sS
      obtain ⟨wc, xF⟩ : ∃ x, x = wr := ⟨_, rfl⟩
      subst xF
      obtain ⟨q, hq, rfl, pA, hI⟩ := hrel
      have pN := Z0 pA
      have HI := Z0 hI
      clear hI
      by_cases pO : q < L.buns.length
      ·obtain ⟨_, _, pE, _, _, _⟩ := pD.out wc pA
       obtain ⟨gb, sv, cur, rfl, yC, vM, yD, vN, vO⟩ := Zd7 pE.b (by omega)
       have xG := tE.out _ (Z4 pO)
       obtain ⟨⟨z, hz, sV⟩, xH, xI⟩ := xG
       have qL := fun j u hu => (Kaa _ _ (q * 4 + j) _ _ _ vM).trans (vN q pO j u hu)
       have q0 : wc.cell? ⟨gb, q * 4, none⟩ = some (.int .i64 L.buns[q].lvl) := qL 0 _ rfl
       have q1 : wc.cell? ⟨gb, q * 4 + 1, none⟩ = some (.string L.buns[q].grp) := qL 1 _ rfl
       have q2 : wc.cell? ⟨gb, q * 4 + 2, none⟩ = some (sv q) := qL 2 _ rfl
       obtain ⟨ra, rc, hsv, _⟩ := vO q pO
       rw [hsv] at q2
       have q3 : wc.cell? ⟨gb, q * 4 + 3, none⟩ = some (.int .i64 L.buns[q].grams) := qL 3 _ rfl
       rw [sV] at q0
       have vP := Z0 (ZdF (K := ls.length) pO hz sV)
       have yE := Zgv (fun b hb => (tE.out b hb).2) (z : Int) q hq
       generalize L.buns[q].grams = gr at q3 xH xI vP
       generalize L.buns[q].grp = grp at q1
       generalize L.buns[q].ids.length = rn at q2
       have e2 : decide ((q : Int) < (L.buns.length : Int)) = true := Kac (by omega)
       have vQ := HI.out.lt
       have xJ : Z <= wc.1.size := by have := pA.size; rw [HZ.out]; exact this
       clear pE vM vN qL sV pA vO hsv
       go_upto_region 38 with fail
       clear q0 q1 q2 q3
       obtain ⟨W38, qM⟩ : ∃ W, W = wc.alloc (.cells #[.int .i64 (z : Int), .string grp, .slice ra rn rc, .int .i64 gr] 67) := ⟨_, rfl⟩
       obtain ⟨D, hD⟩ : ∃ D, D = wc.1.size := ⟨_, rfl⟩
       have hx : W38.1[D]? = some (.cells #[.int .i64 (z : Int), .string grp, .slice ra rn rc, .int .i64 gr] 67 (0, 0)) := by rw [qM, hD]; exact Z02 wc _
       have rH : IntsAt W38 R (Z3X L.buns ls.length q) := by rw [qM]; exact (ZB _ _ _ vQ).trans HI.out
       have vR : Below Z w9 W38 := by rw [qM]; exact pN.out.alloc xJ _
       rw [<- qM, <- hD]
       rw [<- hD] at vQ
       have x0 := Kaa _ _ 0 _ _ _ hx
       have x3 := Kaa _ _ 3 _ _ _ hx
       have r0 := rH.cell (i := z) (by rw [Z2W]; exact hz)
       rw [ZcD _ hz] at r0
       have hw : IntKind.i64.wrap (Z7A (L.buns.take q) (z : Int) + gr) = Z7A (L.buns.take q) (z : Int) + gr := IntWalk.i64_in _ (by omega)
       have xK : Hid (IntsAt (W38.drew.setCell ⟨R, z, none⟩ (.int .i64 (Z7A (L.buns.take q) (z : Int) + gr))) R (Z3X L.buns ls.length (q + 1))) := by
        have h1 : IntsAt W38.drew R (Z3X L.buns ls.length q) := rH
        have h2 := h1.set z (Z7A (L.buns.take q) (z : Int) + gr)
        rw [vP.out] at h2
        exact h2
       have xL : Hid (Below Z w9 (W38.drew.setCell ⟨R, z, none⟩ (.int .i64 (Z7A (L.buns.take q) (z : Int) + gr)))) := vR.drew.setCell (p := ⟨R, z, none⟩) rG _
       have vS := rH.free z
       clear qM hD hx rH vR
       refine Z2O (ops' := Z6i) (by kernel_rfl) (Zhh _ W38 _ (R := R) (b := D) (K := ls.length) (z := z) (u := Z7A (L.buns.take q) (z : Int)) (gr := gr) (by simp) (fun _ _ _ _ _ h => h) rfl rfl hz (by omega) x0 x3 r0 vS hw ?_)
       intro a' vT vU vV
       rw [Z2T (a' := a') [248, 249, 250, 251, 252, 253, 254, 255, 256] vT (fun n hn => vU n (by simp at hn; omega)) vV]
       simp only [Z1K]
       generalize Act.eval a' (.tmp 248) = u248
       generalize Act.eval a' (.tmp 249) = u249
       generalize Act.eval a' (.tmp 250) = u250
       generalize Act.eval a' (.tmp 251) = u251
       generalize Act.eval a' (.tmp 252) = u252
       generalize Act.eval a' (.tmp 253) = u253
       generalize Act.eval a' (.tmp 254) = u254
       generalize Act.eval a' (.tmp 255) = u255
       generalize Act.eval a' (.tmp 256) = u256
       simp only [Act.put, Kci, Kdh, Kcy]
       clear vT vU vV x0 x3 r0 hw vS
       go_wp2_with fail
       go_roundw
       case rel => exact ⟨q + 1, by omega, by go_num, xL.out, xK.out⟩
       case measure => simp [intOf]; omega
      ·obtain rfl : q = L.buns.length := by omega
       have e2 : decide ((L.buns.length : Int) < (L.buns.length : Int)) = false := by simp
       clear pA
       go_wp2_with fail
       clear e2
       go_loopw [260] (fun i wr => ∃ j : Nat, j <= ls.length /\ i = .int .i64 j /\ Below Z w9 wr /\ IntsAt wr R (Z3X L.buns ls.length L.buns.length)) (fun i _ => ls.length - (intOf i).toNat)
       case atStart => exact ⟨0, ZE _, rfl, pN.out, HI.out⟩
       case round =>
        clear pN HI
        obtain ⟨wd, xM⟩ : ∃ x, x = wr := ⟨_, rfl⟩
        subst xM
        obtain ⟨j, hj, rfl, qN, hI⟩ := hrel
        have xN := Z0 qN
        have HI := Z0 hI
        by_cases sW : j < ls.length
        ·obtain ⟨_, pS, _, _, _, _⟩ := pD.out wd qN
         obtain ⟨a0, _⟩ := Z1w pS.cells
         rw [pC.out] at a0
         obtain ⟨y, hy, vW⟩ := wC.out j sW
         obtain ⟨xO, vX⟩ := Kam.1 hy
         obtain ⟨_, ⟨c2, p2, xP, vY⟩, _⟩ := pS
         have l3 : wd.cell? ⟨g, j * 8 + 3, none⟩ = some (.int .i64 (Z7A L.buns (j : Int))) := by
          rw [<- vW, <- vX]
          exact (Kaa _ _ (j * 8 + 3) _ _ _ p2).trans (vY j xO 3 _ rfl)
         have r0 := hI.cell (i := j) (by rw [Z2W]; exact sW)
         rw [ZcD _ sW, Kat] at r0
         have e2 : decide ((j : Int) < (ls.length : Int)) = true := Kac (by omega)
         clear hy vW vX p2 xP vY hI qN
         go_upto_region 43 with fail
         go_quiet (fail)
         go_wp2_with fail
         go_roundw
         case rel => exact ⟨j + 1, by omega, by go_num, below_drewN xN.out, HI.out⟩
         case measure => simp [intOf]; omega
        ·obtain rfl : j = ls.length := by omega
         obtain ⟨pB, pS, pE, _, _, _⟩ := pD.out wd qN
         obtain ⟨a0, a1, a2, a3, a4, a5, a6, a7, a8, a9, a10, a11⟩ := Z1w pS.cells
         rw [rL.out.1] at a8
         rw [rL.out.2.1] at a4
         rw [rL.out.2.2] at a2
         rw [rM.out.1] at a9
         rw [rM.out.2.1] at a10
         rw [rM.out.2.2] at a11
         obtain ⟨m0, m1, m2, m3⟩ := pB.m
         have c0 := Kaa _ _ 0 _ _ _ pE.box
         have c1 := Kaa _ _ 1 _ _ _ pE.box
         have c2 := Kaa _ _ 2 _ _ _ pE.box
         have xQ := Z0 pB.bw
         have e2 : decide ((ls.length : Int) < (ls.length : Int)) = false := by simp
         clear pB pS pE m0 m1 m2 qN hI a0 a1 a3 a5 a6 a7
         go_wp2_with fail
         go_ret
         exact ⟨rfl, xQ.out⟩
end Go.Proofs.YtlgajongmkhcnaaGreatDoor
