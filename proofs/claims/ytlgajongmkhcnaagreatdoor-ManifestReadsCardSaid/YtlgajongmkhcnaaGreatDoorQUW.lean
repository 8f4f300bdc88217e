import Derived.Test.YtlgajongmkhcnaaGreatDoorQUU
import Derived.Test.YtlgajongmkhcnaaGreatDoorQUR
import Derived.BigQuiet
import Derived.BigRegion
import Derived.Deep.DeepCutAuto
import Derived.Deep.CutBlock
set_option maxRecDepth 100000
set_option linter.unusedVariables false
set_option linter.unusedSimpArgs false
set_option maxHeartbeats 32000000
namespace Go.Proofs.YtlgajongmkhcnaaGreatDoor
open Go.RowKit Go.Sort
theorem Z9F {ls : List Lev} {X : Man} (hr : Z0g ls = true) (h : ManT ls X) (pP : ls.length <= 6) : (Z3s ls X).length <= 20000 := by
 have h1 := Z90 h.len (Z89 hr) (fun l hl => Z8u (h.lns l hl) (by decide)) ls.length (Z1 _)
 have h2 : (Z1y totalS (Z0U X.total)).length <= 2000 := Z4q (by decide) (Z1q (Z8u h.tot (by decide))) (Z1 _)
 have h3 : (Z1y packedS (Z5s X)).length <= 2000 := Z4q (by decide) (fun r hr => by
  unfold Z5s at hr
  simp only [Kbf, Kda, or_false] at hr
  have a := h.bns
  have b := h.trs
  have c := h.cns
  rcases hr with rfl | rfl | rfl
  ·exact Kaw (Z0v _ (by omega) (by omega)) (by decide)
  ·exact Kaw (Z0v _ (by omega) (by omega)) (by decide)
  ·exact Kaw (Z0v _ (by omega) (by omega)) (by decide)) (show (3 : Nat) <= 7 by decide)
 unfold Z3s
 rw [ZC, ZC]
 omega
theorem Zf0 {ls : List Lev} {X : Man} (h : ManT ls X) {i : Nat} : ∀ r ∈ Z2z ls X i, r.size <= 100 := by
 unfold Z2z
 split
 ·rename_i h1
  have h2 : i < X.lines.length := by rw [h.len]; exact h1
  have e : X.lines.getD i (Z1m 0) = X.lines[i] := by rw [Z2, Z3 h2]; rfl
  rw [e]
  exact Z1q (Z8u (h.lns _ (Z4 h2)) (by decide))
 ·split
  ·exact Z1q (Z8u h.tot (by decide))
  ·intro r hr
   unfold Z5s at hr
   simp only [Kbf, Kda, or_false] at hr
   have a := h.bns
   have b := h.trs
   have c := h.cns
   rcases hr with rfl | rfl | rfl
   ·exact Kaw (Z0v _ (by omega) (by omega)) (by decide)
   ·exact Kaw (Z0v _ (by omega) (by omega)) (by decide)
   ·exact Kaw (Z0v _ (by omega) (by omega)) (by decide)
theorem ZbV (r : ByteArray) (a b : Nat) : (r.extract a b).data.toList = (r.data.toList.drop a).take (b - a) := by
 rw [ByteArray.data_extract, Array.toList_extract, List.extract_eq_take_drop]
theorem Zdy (n : Nat) (ps : List UInt8) (s : Int) (b : Nat) (vp vl vc vs : Value) (ls : List Lev) (l : List UInt16) (k : Pck) (w : World) (ht : TabW w) (h : Mk27 n ps ls l) (hT : ZkU n ps #[.int .u32 (n : Nat), vp] w)
 (hM : ZjV #[.int .u32 s, vl, vc, vs, .int .i64 60, .int .u32 b] ls l (Z3W ls (Z04 l)) k w) (hk : Z7K k = true) (qL : ∀ p ∈ (Z04 l).ps, p.grams <= k.grams) :
 Calls Tryz.prog 7 #[.int .u32 (n : Nat), .int .u32 s, vp, vl, vc, vs, .int .u32 b] w fun e w' => e = .returned (.bool true) /\ Below w.1.size w w' := by
 have rM := Z0 (fun W hW => Z7C W hW)
 have HT := Z0 hT
 have HM := Z0 hM
 have qM := Z0 ht
 have tG : (Z04 l).ps.length = l.length := Z2A _ _
 have tH := h.hp.few
 rw [tG] at tH
 have pP := Z0y h.hp.right
 have pQ := Z6U ls (Z04 l)
 have pR := h.hp.nums
 obtain ⟨zs, qN⟩ : ∃ zs, zs = Z3W ls (Z04 l) := ⟨_, rfl⟩
 have rN : Zb3 ls (Z04 l) zs k = 0 := by rw [qN]; exact Za5 h.hp hk
 rw [<- qN] at HM pQ pR
 obtain ⟨L, qO⟩ : ∃ L, L = ZbD ls l zs k := ⟨_, rfl⟩
 obtain ⟨M, pE⟩ : ∃ M, M = Z5y n ps ls l zs L := ⟨_, rfl⟩
 have rO : Hid (ZjU n ps ls l zs k M) := by rw [pE, qO]; exact ZiB h pQ pR rN hk qL
 have pF : M.lines.length = ls.length := by rw [pE]; exact ZcK ..
 have qP : Hid (∀ i (hi : i < (M.lines ++ [M.total]).length), SumLn n ls i ((M.lines ++ [M.total])[i])) := by rw [pE]; exact Z9K h pQ pR L
 have pA : ManT ls M := by
  have hf := ZbC h.hp pQ pR hk qL
  rw [<- qO] at hf
  refine ⟨pF, fun x hx => ?_, ?_, ?_, ?_, ?_⟩
  ·obtain ⟨i, hi, rfl⟩ := Kau.1 hx
   have h1 := (qP.out i (by rw [ZC]; omega)).inn
   rw [Kbl hi] at h1
   exact h1
  ·have h1 := (qP.out M.lines.length (by simp)).inn
   simpa using h1
  ·rw [pE]; exact ⟨Kce _, by show ((L.buns.length : Nat) : Int) <= _; omega⟩
  ·rw [pE]; exact ⟨Kce _, by show ((L.tras.length : Nat) : Int) <= _; omega⟩
  ·rw [pE]; exact ⟨Kce _, by show ((L.cons.length : Nat) : Int) <= _; omega⟩
 have pH := h.hp.right
 obtain ⟨tx, pW⟩ : ∃ tx : ByteArray, tx = ⟨(Z3s ls M).toArray⟩ := ⟨_, rfl⟩
 have pX : tx.data.toList = Z3s ls M := by rw [pW]
 have tI : tx.size <= 20000 := by
  have := Z9F pH pA pP.2
  rw [pW]
  show (Z3s ls M).toArray.size <= _
  simpa using this
 have rP : Hid (∀ W v vl, RdLevs W vl ls -> RdLns W v M.lines -> TabW W -> Calls Tryz.prog 17 #[vl, Z6p M v] W fun e w' => e = .returned (.tuple #[.string tx, .int .i64 0]) /\ Below W.1.size W w') := by
  intro W v vl h1 h2 h3
  rw [pW]
  exact Zcb W h1 pH h2 pF (Z8u pA.tot (by decide)) (fun l hl => Z8u (pA.lns l hl) (by decide)) ⟨by have := pA.bns; omega, by have := pA.bns; omega⟩ ⟨by have := pA.trs; omega, by have := pA.trs; omega⟩ ⟨by have := pA.cns; omega, by have := pA.cns; omega⟩ h3
 have tJ : Hid (∀ W a c vl, RdLevs W vl ls -> Calls Tryz.prog 17 #[vl, Z6p M (.slice a (ls.length - 1) c)] W fun e w' => e = .returned (.tuple #[.string ⟨#[]⟩, .int .i64 2]) /\ Below W.1.size W w') := by
  intro W a c vl h1
  exact Zet (X := { M with lines := M.lines.drop 1 }) W h1 h.fits (by omega) ⟨a, _, c, rfl, by show _ = (M.lines.drop 1).length; rw [Kdp, pF]⟩ (.inr (by show (M.lines.drop 1).length ≠ _; rw [Kdp, pF]; omega))
 have pY : Hid (∀ W a c, Calls Tryz.prog 17 #[.slice none 0 0, Z6p M (.slice a ls.length c)] W fun e w' => e = .returned (.tuple #[.string ⟨#[]⟩, .int .i64 2]) /\ Below W.1.size W w') := by
  intro W a c
  exact Zet (ls := []) (X := M) W ⟨none, 0, rfl, fun h0 => by simp at h0⟩ (fun l hl => by cases hl) (by simp) ⟨a, _, c, rfl, pF.symm⟩ (.inl (by
   cases hb : Z0g []
   ·rfl
   ·exact absurd (Z0y hb).1 (by simp)))
 have pI := ZgU ls M
 have rQ : Hid (Z0s 10 [] (Z3s ls M).dropLast = (List.range (ls.length + 2)).map (Z1P ls M)) := Zes pH pA
 have tK : Hid (∀ i, i < ls.length + 2 -> Z0s 32 [] (Z1P ls M i) = (Z2I ls i).data.toList :: (Z2z ls M i).map (fun r => r.data.toList)) := fun i hi => ZeY pH pA hi
 have tL : Hid (∀ i, i < ls.length + 2 -> ∀ r ∈ Z2z ls M i, NumW r /\ r.size <= 100) := fun i hi r hr => ⟨Z91 pA hi r hr, Zf0 pA r hr⟩
 have tM : Hid (∀ i, i < ls.length + 2 -> (Z1P ls M i).length <= 20000) := by
  intro i hi
  have h1 := Z9F pH pA pP.2
  rw [Z6z] at h1
  have h2 : ∀ (LL : List (List UInt8)) x, x ∈ LL -> x.length <= (LL.flatMap (fun l => l ++ [10])).length := fun LL => by
   induction LL with
   | nil => intro x hx; cases hx
   | cons y r ih =>
    intro x hx
    rw [Kao, ZC, ZC]
    rcases Kbf.1 hx with rfl | hx
    ·omega
    ·have := ih x hx; omega
  exact Kaw (h2 _ _ (Kae.2 ⟨i, Ka8.2 hi, rfl⟩)) h1
 have tN : zs.length = l.length := by omega
 have qQ := Z0 pF
 have uJ := Z0 h
 clear pE qO pW qP pA pH
 clear rN qN pQ pR hM hT ht qL hk pF
 go_enter Tryz.func7, Tryz.ntmps7
 go_wp2_with fail
 refine (rM.out _ qM.out).mono ?_
 rintro e w1 ⟨rfl, pZ⟩
 go_wp2_with fail
 refine (HT.out _ pZ).mono ?_
 rintro e w2 ⟨ar, cr, az, cz, rfl, rR, rS⟩
 have qA := Z01 pZ pZ.size rR
 clear pZ rR
 go_wp2_with fail
 obtain ⟨W2, pJ⟩ : ∃ W2, W2 = w2.alloc (.cells #[.slice ar (Z1H n ps).rates.length cr, .slice az (Z1H n ps).zones.length cz] 29) := ⟨_, rfl⟩
 rw [<- pJ]
 have b2 : Below w2.1.size w2 W2 := by rw [pJ]; exact (Z9 _ w2).alloc (Z1 _) _
 refine (HM.out W2 (Z01 qA qA.size b2)).mono ?_
 rintro e w3 ⟨al, cl, ap, cp, gz, rfl, qB, rT, rU, rV, tO⟩
 have t0 : W2.1[w2.1.size]? = some (.cells #[.slice ar (Z1H n ps).rates.length cr, .slice az (Z1H n ps).zones.length cz] 29 (0, 0)) := by rw [pJ]; exact Z02 w2 _
 have s2 : W2.1.size = w2.1.size + 1 := by rw [pJ]; simp
 have q3 := (qB.block _ (by omega)).trans t0
 have y0 := Kaa _ _ 0 _ _ _ q3
 have y1 := Kaa _ _ 1 _ _ _ q3
 have l3 : w2.1.size < w3.1.size := by have := qB.size; omega
 have rW := Z0 qA
 have pY := Z0 rS
 have rX := Z0 pJ
 have rY := Z0 qB
 have rZ := Z0 rT
 have sA := Z0 rU
 have sB := Z0 rV
 clear qA rS pJ qB rT rU rV tO t0 q3 b2 s2 rM HT HM
 go_wp2_with fail
 obtain ⟨W4, qR⟩ : ∃ W, W = (w3.alloc (.cells #[.int .u8 1, .int .u8 1, .string ⟨#[49, 48, 48, 50, 51]⟩, .slice ap l.length cp] 34)).alloc (.cells #[.int .i64 k.pieces, .int .i64 k.grams, .int .i64 k.bundles, .int .i64 k.trays] 37) := ⟨_, rfl⟩
 rw [<- qR]
 have pS := Z0 (Keep.of (k := k) qM.out rW.out pY.out rX.out rY.out rZ.out sA.out sB.out qR).1
 obtain ⟨T, sC⟩ : ∃ T, T = w2.1.size := ⟨_, rfl⟩
 obtain ⟨X, sD⟩ : ∃ X, X = w3.1.size := ⟨_, rfl⟩
 rw [<- sC] at y0 y1 l3 pS ⊢
 rw [<- sD] at l3 pS ⊢
 clear qR y0 y1 qM rW pY rX rY rZ sA sB sC sD
 have pT := pS.out W4 (Z9 _ _)
 refine (rO.out W4 _ _ _ _ _ pT.rt pT.rl pT.rp (Z92 pT.rz tN)).mono ?_
 clear pT rO
 rintro e w5 ⟨av, cv, rfl, qS, sE⟩
 have sF : 0 < M.lines.length := by have := qQ.out; omega
 obtain ⟨W6, qC⟩ : ∃ W, W = w5.alloc (.cells #[.slice av M.lines.length cv, .int .i64 M.total.level, .int .i64 M.total.pieces, .int .i64 M.total.barred, .int .i64 M.total.grams, .int .i64 M.total.base, .int .i64 M.total.bar, .int .i64 M.total.saved, .int .i64 M.total.cents, .int .i64 M.buns, .int .i64 M.tras, .int .i64 M.cons] 44) := ⟨_, rfl⟩
 obtain ⟨g, rfl, pK, b6, s6⟩ := ZcJ sE rfl sF qC
 have qT := Z01 qS qS.size b6
 have pB := pS.out W6 qT
 rw [qC] at pB
 obtain ⟨m0, m1, m2, m3⟩ := pB.m
 obtain ⟨k0, k1, k2, k3⟩ := pB.k
 obtain ⟨l0, l1, l2, l3⟩ := pB.lt
 have tP := Z0 pK
 have uK := Z0 b6
 have sG := Z0 qT
 have tQ := Z0 s6
 have qU := Z0 qC
 clear pB qS sE b6 qT s6 qC pK sF
 have pL : Hid (∀ W, Below W6.1.size W6 W -> Keep w n ps ls l.length (Z04 l).ps zs k T X gz ar az al ap cr cz cl cp W /\ ManS W W4.1.size w5.1.size g cv M /\ w5.1.size < W.1.size) := fun W hW => ⟨pS.out W (Z01 sG.out sG.out.size hW), tP.out.below hW, by have := hW.size; have := tQ.out; omega⟩
 obtain ⟨pB, pK, tR⟩ := pL.out W6 (Z9 _ _)
 obtain ⟨gl, ol, rfl⟩ : ∃ gl ol, al = some ⟨gl, ol, none⟩ := by
  obtain ⟨al', lc', qV, qW⟩ := pB.rl
  injection qV with v1 v2 v3
  obtain ⟨gl, ol, pU, _⟩ := qW (by omega)
  exact ⟨gl, ol, v1.trans pU⟩
 have tS : Hid (∀ W, Below W6.1.size W6 W -> ∀ q (hq : q < ls.length), W.cell? ⟨gl, ol + q * 5, none⟩ = some (.string ls[q].name)) := fun W hW q hq => by
  obtain ⟨al', lc', qV, qW⟩ := (pL.out W hW).1.rl
  injection qV with v1 v2 v3
  subst v1
  obtain ⟨gl', ol', pU, _, tT⟩ := qW (by omega)
  injection pU with pU
  injection pU with e1 e2
  subst e1
  subst e2
  obtain ⟨lv, _, tU⟩ := tT q hq
  exact tU.1
 have sH := rP.out W6 (.slice (some ⟨g, 0, none⟩) M.lines.length cv) (.slice (some ⟨gl, ol, none⟩) ls.length cl) pB.rl pK.rd pB.tb
 obtain ⟨a0, a1, a2, a3, a4, a5, a6, a7, a8, a9, a10, a11⟩ := Z1w pK.cells
 have sI := Z0 sH
 rw [qU.out] at a0 a1 a2 a3 a4 a5 a6 a7 a8 a9 a10 a11
 clear pB pK sH rP m0 m1 m2 m3 k0 k1 k2 k3 l0 l1 l2 l3 tR
 unfold Z6p at sI
 go_wp2_with fail
 rw [<- qU.out]
 clear a0 a1 a2 a3 a4 a5 a6 a7 a8 a9 a10 a11
 refine sI.out.mono ?_
 rintro e w7 ⟨rfl, sJ⟩
 obtain ⟨A, hA⟩ : ∃ A, A = w5.1.size := ⟨_, rfl⟩
 rw [<- hA] at pL ⊢
 have qX : Hid (Below W6.1.size W6 w7) := sJ
 clear hA sJ qU
 obtain ⟨t0, pI⟩ := pI
 have qD : tx.size = t0.length + 1 := by
  have : tx.data.toList.length = t0.length + 1 := by rw [pX, pI, ZC]; rfl
  simpa using this
 have sK : Lib.hasSuffix tx.data.toList (⟨#[10]⟩ : ByteArray).data.toList = true := by
  rw [pX, pI]
  unfold Lib.hasSuffix
  rw [List.isSuffixOf_iff_suffix]
  exact ⟨t0, rfl⟩
 have sL : Hid (Calls Tryz.prog 18 #[.string tx, .string ⟨#[10]⟩] w7 fun e w' => e = .returned (.bool true) /\ w' = w7) := (Tryz.strings_HasSuffix tx ⟨#[10]⟩ w7 (by omega)).mono fun e w' h => ⟨h.1.trans (by rw [sK]), h.2⟩
 have hex : (tx.extract 0 t0.length).data.toList = (Z3s ls M).dropLast := by
  rw [ZbV, pX, pI]
  simp
 have sM : Hid (∀ W, Calls Tryz.prog 19 #[.string (tx.extract 0 t0.length), .string ⟨#[10]⟩] W fun e w' => e = .returned (.slice (some ⟨W.1.size, 0, none⟩) (ls.length + 2) (ls.length + 2)) /\ w' = W.alloc (.cells ((asB ((List.range (ls.length + 2)).map (Z1P ls M))).map Value.string).toArray 9)) := by
  intro W
  have h1 := Z9P (tx.extract 0 t0.length) 10 W (by rw [ByteArray.size_extract]; omega)
  rw [hex, rQ.out, Z7, Kay] at h1
  exact h1
 clear pI sK hex pX rQ
 go_wp2_with (go_at_call 18; refine sL.out.mono ?_; rintro e w8 ⟨rfl, tV⟩)
 refine (sM.out _).mono ?_
 rintro e w9 ⟨rfl, qE⟩
 obtain ⟨RB, qF⟩ : ∃ RB, RB = w7.1.size := ⟨_, rfl⟩
 have qG : Hid (Below W6.1.size W6 w9) := by show Below _ _ _; rw [qE]; exact qX.out.alloc qX.out.size _
 have qY : Hid (RB < w9.1.size /\ ∀ i, i < ls.length + 2 -> w9.cell? ⟨RB, i, none⟩ = some (.string ⟨(Z1P ls M i).toArray⟩)) := by
  refine ⟨by rw [qE, qF]; simp, fun i hi => ?_⟩
  rw [qE, qF, Kaa _ _ i _ _ _ (Z02 w7 _)]
  simp [asB, hi]
 rw [<- qF]
 have sN := Z0 pP
 clear qE qF sL sM qX tV qD tI
 go_wp2_with fail
 go_loopw [85] (fun i wr => ∃ q : Nat, q <= ls.length + 2 /\ i = .int .i64 q /\ Below w9.1.size w9 wr) (fun i _ => ls.length + 2 - (intOf i).toNat)
 case atStart => exact ⟨0, ZE _, rfl, Z9 _ _⟩
 case round =>
  obtain ⟨wa, tW⟩ : ∃ x, x = wr := ⟨_, rfl⟩
  subst tW
  obtain ⟨q, hq, rfl, hB⟩ := hrel
  have HB := Z0 hB
  by_cases qH : q < ls.length + 2
  ·have r0 := (hB.cell (p := ⟨RB, q, none⟩) qY.out.1).trans (qY.out.2 q qH)
   have tX : RB < wa.1.size := by have := qY.out.1; have := hB.size; omega
   obtain ⟨lb, qI⟩ : ∃ lb : ByteArray, lb = ⟨(Z1P ls M q).toArray⟩ := ⟨_, rfl⟩
   rw [<- qI] at r0
   have tY : lb.size <= 20000 := by rw [qI]; show (Z1P ls M q).toArray.size <= _; simpa using tM.out q qH
   have pM := Z9P lb 32 wa (by omega)
   have sO : lb.data.toList = Z1P ls M q := by rw [qI]
   rw [sO, tK.out q qH] at pM
   have pC := tL.out q qH
   have qZ := Zhc ls M q
   have rA : Z2I ls q = if q < ls.length then (ls.getD q ⟨⟨#[]⟩, 0, [], 0, 0⟩).name else if q = ls.length then totalS else packedS := rfl
   generalize Z2I ls q = fb at pM rA
   generalize Z2z ls M q = rest at pM pC qZ
   have sP : Hid (Calls Tryz.prog 19 #[.string lb, .string ⟨#[32]⟩] wa fun e w' => e = .returned (.slice (some ⟨wa.1.size, 0, none⟩) (rest.length + 1) (rest.length + 1)) /\ w' = wa.alloc (.cells ((fb :: rest).map Value.string).toArray 9)) := by
    have e1 : asB (fb.data.toList :: rest.map (fun r => r.data.toList)) = fb :: rest := by
     unfold asB
     rw [Kan, Kdd]
     congr 1
     exact List.map_id _
    rw [e1, Ka9, Z7] at pM
    exact pM
   have tZ := Z0 pC
   have rB := Z0 rA
   have rC := Z0 qZ
   clear qI tY pM sO pC rA qZ hB
   go_wp2_with (go_at_call 19; refine sP.out.mono ?_; rintro e w10 ⟨rfl, pG⟩; have sQ := Z0 pG; clear pG)
   clear r0
   have pG := sQ.out
   obtain ⟨S, hS⟩ : ∃ S, S = wa.1.size := ⟨_, rfl⟩
   have rD : Hid (Below w9.1.size w9 w10) := by show Below _ _ _; rw [pG]; exact HB.out.alloc HB.out.size _
   have sR : S < w10.1.size := by rw [pG, hS]; simp
   have rE : Hid (w10.1[S]? = some (.cells ((fb :: rest).map Value.string).toArray 9 (0, 0))) := by show _ = _; rw [pG, hS]; exact Z02 wa _
   rw [<- hS]
   clear pG sQ hS sP tX
   have pN := Z01 qG.out qG.out.size rD.out
   have s0 : w10.cell? ⟨S, 0, none⟩ = some (.string fb) := by rw [Kaa _ _ 0 _ _ _ rE.out]; simp
   have h3 : q < ls.length \/ q = ls.length \/ q = ls.length + 1 := by omega
   have pP := sN.out
   rcases h3 with pD | pD | pD
   case' inl =>
    have hn : rest.length = 7 := by rw [rC.out, if_pos (by omega)]
    have l0 := tS.out w10 pN q pD
    have pO : ls[q].name = fb := by rw [rB.out, if_pos pD, Z2, Z3 pD]; rfl
    rw [pO] at l0
    have f1 : decide ((q : Int) < (ls.length : Int)) = true := Kac (by omega)
    have f2 : ((q : Int) == (ls.length : Int)) = false := by rw [beq_eq_false_iff_ne]; omega
    have f3 : decide ((ls.length : Int) < (q : Int)) = false := Kad (by omega)
    have rF : Hid (q + 1 <= ls.length + 2) := by show _ <= _; omega
    clear pO
   case' inr.inl =>
    have hn : rest.length = 7 := by rw [rC.out, if_pos (by omega)]
    have pO : fb = totalS := by rw [rB.out, if_neg (by omega), if_pos pD]
    have l0 : True := trivial
    have rF : Hid (q + 1 <= ls.length + 2) := by show _ <= _; omega
    subst pO
    subst pD
    unfold totalS at s0
    have f1 : decide ((ls.length : Int) < (ls.length : Int)) = false := by simp
    have f2 : ((ls.length : Int) == (ls.length : Int)) = true := by simp
    have f3 : True := trivial
   case' inr.inr =>
    have hn : rest.length = 3 := by rw [rC.out, if_neg (by omega)]
    have pO : fb = packedS := by rw [rB.out, if_neg (by omega), if_neg (by omega)]
    have l0 : True := trivial
    have rF : Hid (q + 1 <= ls.length + 2) := by show _ <= _; omega
    subst pO
    unfold packedS at s0
    have f1 : decide ((q : Int) < (ls.length : Int)) = false := Kad (by omega)
    have f2 : ((q : Int) == (ls.length : Int)) = false := by rw [beq_eq_false_iff_ne]; omega
    have f3 : decide ((ls.length : Int) < (q : Int)) = true := Kac (by omega)
    have g1 : decide (q < ls.length) = false := Kad (by omega)
    have g2 : ls.length <= q := by omega
    have g3 : ls.length < q := by omega
    have g4 : q ≠ ls.length := by omega
    clear pD
   all_goals
    have F2 := Z0 f2
    have F3 := Z0 f3
    clear pN f2 f3
    go_quiet (fail)
    have f2 := F2.out
    have f3 := F3.out
    clear F2 F3
    go_wp2_with fail
    clear s0 l0 f1 f2 f3
    have rG : Below w9.1.size w9 (w10.drewN nq) := below_drewN rD.out
    have rH : (w10.drewN nq).1[S]? = some (.cells ((_ :: rest).map Value.string).toArray 9 (0, 0)) := rE.out
    obtain ⟨W11, rI⟩ : ∃ W, W = w10.drewN nq := ⟨_, rfl⟩
    have uA : S < W11.1.size := by rw [rI]; exact sR
    rw [<- rI] at rG rH ⊢
    have sS := Z0 rG
    have uB := Z0 rH
    have sT := Z0 hn
    clear rI rG rH sR hn rD rE
    go_loopw [148] (fun i wr => ∃ j : Nat, j <= rest.length /\ i = .int .i64 j /\ Below W11.1.size W11 wr) (fun i _ => rest.length - (intOf i).toNat)
    case atStart => exact ⟨0, ZE _, rfl, Z9 _ _⟩
    case round =>
     obtain ⟨wb, uC⟩ : ∃ x, x = wr := ⟨_, rfl⟩
     subst uC
     obtain ⟨j, hj, rfl, pV⟩ := hrel
     have sU := Z0 pV
     by_cases sV : j < rest.length
     ·have c0 := (pV.cell (p := ⟨S, 1 + j, none⟩) uA).trans (Kaa _ _ (1 + j) _ _ _ uB.out)
      have c1 : wb.cell? ⟨S, 1 + j, none⟩ = some (.string rest[j]) := by
       rw [c0, Nat.add_comm]
       simp [sV]
      obtain ⟨pC, qD⟩ := tZ.out _ (Z4 sV)
      generalize rest[j] = r at c1 pC qD
      have e1 : r.toList.isEmpty = false := by
       rw [ByteArray.toList_eq, List.isEmpty_eq_false_iff]
       intro e
       exact pC.pos (by have := Kah List.length e; simpa using this)
      have sW := Z0 (ZgT r wb pC.dig (by omega))
      unfold digC at sW
      have hn := sT.out
      first
       | (have e2 : decide ((j : Int) < 3) = true := Kac (by omega); have uL : j < 3 := by omega)
       | (have e2 : decide ((j : Int) < 7) = true := Kac (by omega); have uM : j < 7 := by omega)
      clear c0 pC qD pV hn
      go_wp2_with (go_at_call 20; refine sW.out.mono ?_; rintro e w12 ⟨rfl, uD⟩)
      go_roundw
      case rel => exact ⟨j + 1, by omega, by go_num, Z01 sU.out sU.out.size uD⟩
      case measure => simp [intOf]; omega
     ·obtain rfl : j = rest.length := by omega
      have hn := sT.out
      have uE : Hid (Below w9.1.size w9 wb) := Z01 sS.out sS.out.size pV
      clear pV
      rw [hn]
      clear hn
      go_wp2_with fail
      go_roundw
      case rel => exact ⟨_, rF.out, by go_num, uE.out⟩
      case measure => first | (simp [intOf]; done) | (simp [intOf]; omega)
  ·obtain rfl : q = ls.length + 2 := by omega
   have pN := Z01 qG.out qG.out.size hB
   obtain ⟨sX, sY, uN⟩ := pL.out wa pN
   obtain ⟨a0, a1, a2, a3, a4, a5, a6, a7, a8, a9, a10, a11⟩ := Z1w sY.cells
   rw [qQ.out] at a0
   have uO : 1 <= ls.length := sN.out.1
   have uF := Z0 sX.rl
   have qJ := Z0 pN
   clear sX sY hB pN
   have uG : Hid (∀ W, Below wa.1.size wa W -> ManS W W4.1.size A g cv M /\ A < W.1.size) := fun W hW => by
    obtain ⟨_, h1, h2⟩ := pL.out W (Z01 qJ.out qJ.out.size hW)
    exact ⟨h1, h2⟩
   go_upto_region 31 with fail
   clear a0 a1 a2 a3 a4 a5 a6 a7 a8 a9 a10 a11
   obtain ⟨pv, sZ⟩ : ∃ pv, pv = (if cv = 1 then some (⟨g, 0, none⟩ : Addr) else some ⟨g, 8, none⟩) := ⟨_, rfl⟩
   rw [<- sZ]
   clear sZ
   obtain ⟨W30, qK⟩ : ∃ W, W = wa.alloc (.cells #[.slice pv (ls.length - 1) (cv - 1), .int .i64 M.total.level, .int .i64 M.total.pieces, .int .i64 M.total.barred, .int .i64 M.total.grams, .int .i64 M.total.base, .int .i64 M.total.bar, .int .i64 M.total.saved, .int .i64 M.total.cents, .int .i64 M.buns, .int .i64 M.tras, .int .i64 M.cons] 44) := ⟨_, rfl⟩
   have tA : W30.1[wa.1.size]? = some (.cells #[.slice pv (ls.length - 1) (cv - 1), .int .i64 M.total.level, .int .i64 M.total.pieces, .int .i64 M.total.barred, .int .i64 M.total.grams, .int .i64 M.total.base, .int .i64 M.total.bar, .int .i64 M.total.saved, .int .i64 M.total.cents, .int .i64 M.buns, .int .i64 M.tras, .int .i64 M.cons] 44 (0, 0)) := by rw [qK]; exact Z02 wa _
   have rJ : Below wa.1.size wa W30 := by rw [qK]; exact (Z9 _ wa).alloc (Z1 _) _
   rw [<- qK]
   obtain ⟨a0, a1, a2, a3, a4, a5, a6, a7, a8, a9, a10, a11⟩ := Z1w tA
   have hT := tJ.out W30 pv (cv - 1) _ (uF.out.below rJ)
   unfold Z6p at hT
   have tB := Z0 hT
   have rK := Z0 rJ
   clear tA hT rJ qK
   go_wp2_with fail
   refine tB.out.mono ?_
   rintro e w31 ⟨rfl, tC⟩
   clear a0 a1 a2 a3 a4 a5 a6 a7 a8 a9 a10 a11
   have rL := Z01 rK.out rK.out.size tC
   obtain ⟨tD, uP⟩ := uG.out w31 rL
   obtain ⟨a0, a1, a2, a3, a4, a5, a6, a7, a8, a9, a10, a11⟩ := Z1w tD.cells
   rw [qQ.out] at a0
   have hT := pY.out w31 (some ⟨g, 0, none⟩) cv
   unfold Z6p at hT
   have uH := Z0 hT
   have tE := Z0 (Z01 qJ.out qJ.out.size rL)
   clear tD hT tC rL tB rK
   go_wp2_with fail
   refine uH.out.mono ?_
   rintro e w32 ⟨rfl, tF⟩
   have uI := (pL.out w32 (Z01 tE.out tE.out.size tF)).1.bw
   clear tF
   go_wp2_with fail
   go_ret
   exact ⟨rfl, uI⟩
end Go.Proofs.YtlgajongmkhcnaaGreatDoor
