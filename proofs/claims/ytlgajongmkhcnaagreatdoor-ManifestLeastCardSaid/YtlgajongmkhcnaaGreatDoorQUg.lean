import Derived.Test.YtlgajongmkhcnaaGreatDoorQUe
import Derived.Test.YtlgajongmkhcnaaGreatDoorQUP
import Derived.Test.YtlgajongmkhcnaaGreatDoorQUf
import Derived.BigQuiet
import Derived.BigRegion
set_option maxRecDepth 100000
set_option linter.unusedVariables false
set_option linter.unusedSimpArgs false
set_option maxHeartbeats 32000000
namespace Go.Proofs.YtlgajongmkhcnaaGreatDoor
open Go.RowKit Go.Sort
theorem Zl6 {zs : List Int} {i : Nat} (h : i < zs.length) (d : Int) : zs.getD i d = zs[i] := by
 rw [Z2, Z3 h]; rfl
def MkR (n : Nat) (ps : List UInt8) (ls : List Lev) (pcs : List Pce) (zs : List Int) (k : Pck) (pa ba bra ca : Int) : Prop :=
 ∀ W vr vz v vp vn, RdTar W vr vz (Z1H n ps) -> RdLevs W v ls -> RdPces W vp pcs -> RdInts W vn zs -> Calls Tryz.prog 11 #[.agg #[vr, vz], v, ZdO vp, vn, ZkX k] W fun e w' => ∃ x0 x1 x2 x3 x4 x5 x6 x7 x8 x9, e = .returned (.tuple #[.agg #[.slice x0 x1 x2, .int .i64 x3, .int .i64 pa, .int .i64 x4, .int .i64 x5, .int .i64 ba, .int .i64 bra, .int .i64 x6, .int .i64 ca, .int .i64 x7, .int .i64 x8, .int .i64 x9], .int .i64 0]) /\ Below W.1.size W w'
theorem ZmF {n : Nat} {ps : List UInt8} {ls : List Lev} {l : List UInt16} {zs : List Int} {k : Pck} {M : Man} (h : ZjU n ps ls l zs k M) : MkR n ps ls (Z04 l).ps zs k M.total.pieces M.total.base M.total.bar M.total.cents := by
 intro W vr vz v vp vn h1 h2 h3 h4
 refine (h W vr vz v vp vn h1 h2 h3 h4).mono ?_
 rintro e w' ⟨av, cv, rfl, hb, _⟩
 exact ⟨_, _, _, _, _, _, _, _, _, _, rfl, hb⟩
theorem Zmd (n : Nat) (ps : List UInt8) (s : Int) (b : Nat) (vp vl vc vs : Value) (ls : List Lev) (l : List UInt16) (k : Pck) (w : World) (ht : TabW w) (h : Mk27 n ps ls l) (hT : ZkU n ps #[.int .u32 (n : Nat), vp] w)
 (hM : ZjV #[.int .u32 s, vl, vc, vs, .int .i64 200, .int .u32 b] ls l (Z3W ls (Z04 l)) k w) (hk : Z7K k = true) (pZ : ∀ p ∈ (Z04 l).ps, p.grams <= k.grams) :
 Calls Tryz.prog 5 #[.int .u32 (n : Nat), .int .u32 s, vp, vl, vc, vs, .int .u32 b] w fun e w' => e = .returned (.bool true) /\ Below w.1.size w w' := by
 have rG := Z0 (fun W hW => Z7C W hW)
 have HT := Z0 hT
 have HM := Z0 hM
 have qL := Z0 ht
 have qM : (Z04 l).ps.length = l.length := Z2A _ _
 have sI := h.hp.few
 rw [qM] at sI
 have tA := Z0y h.hp.right
 have pP := Z6U ls (Z04 l)
 have pH := h.hp.nums
 obtain ⟨zs, pI⟩ : ∃ zs, zs = Z3W ls (Z04 l) := ⟨_, rfl⟩
 have rH : Zb3 ls (Z04 l) zs k = 0 := by rw [pI]; exact Za5 h.hp hk
 rw [<- pI] at HM pP pH
 obtain ⟨M1, pQ⟩ : ∃ M, M = Z5y n ps ls l zs (ZbD ls l zs k) := ⟨_, rfl⟩
 have pC : Hid (MkR n ps ls (Z04 l).ps zs k M1.total.pieces M1.total.base M1.total.bar M1.total.cents) := by rw [pQ]; exact ZmF (ZiB h pP pH rH hk pZ)
 obtain ⟨lz, qA⟩ : ∃ lz, lz = ZlG (Z04 l).ps.length ls.length := ⟨_, rfl⟩
 have pR : lz.length = (Z04 l).ps.length := by rw [qA]; unfold ZlG; rw [Kcb]
 obtain ⟨pJ, qB⟩ := ZlM h.hp
 rw [<- qA] at pJ qB
 obtain ⟨M2, qC⟩ : ∃ M, M = Z5y n ps ls l lz (ZbD ls l lz k) := ⟨_, rfl⟩
 have pB : Hid (MkR n ps ls (Z04 l).ps lz k M2.total.pieces M2.total.base M2.total.bar M2.total.cents) := by rw [qC]; exact ZmF (ZiB h pR pJ (by rw [Zln h.hp pR pJ hk, qB]; rfl) hk pZ)
 have rI : M1.total.cents <= M2.total.cents := by rw [pQ, qC, pI]; exact Zlx h.hp pR pJ qB _ _
 obtain ⟨e1, e2, e3⟩ : M1.total.base = M2.total.base /\ M1.total.bar = M2.total.bar /\ M1.total.pieces = M2.total.pieces := by rw [pQ, qC]; exact Zm1 pP pH pR pJ _ _
 have qN : Hid (∀ lv W vr vz v vp vn, RdTar W vr vz (Z1H n ps) -> RdLevs W v ls -> RdPces W vp (Z04 l).ps -> RdInts W vn (Zl5 zs ls.length lv) -> ∃ (ok : Bool) (C : Int) (E : Int), ((ok = true -> E = 0 /\ M1.total.cents <= C)) /\
  Calls Tryz.prog 16 #[v, ZdO vp, vn] W (fun e w' => e = .returned (.tuple #[.bool ok, .int .i64 0]) /\ Below W.1.size W w') /\
  ∀ W', Below W.1.size W W' -> Calls Tryz.prog 11 #[.agg #[vr, vz], v, ZdO vp, vn, ZkX k] W' fun e w' => ∃ x0 x1 x2 x3 x4 x5 x6 x7 x8 x9 x10 x11 x12, e = .returned (.tuple #[.agg #[.slice x0 x1 x2, .int .i64 x3, .int .i64 x4, .int .i64 x5, .int .i64 x6, .int .i64 x7, .int .i64 x8, .int .i64 x9, .int .i64 C, .int .i64 x10, .int .i64 x11, .int .i64 x12], .int .i64 E]) /\ Below W'.1.size W' w') := by
  intro lv W vr vz v vp' vn h1 h2 h3 h4
  have pD : (Zl5 zs ls.length lv).length = (Z04 l).ps.length := by rw [Zld]; exact pP
  have pK := Zmc lv pH
  have pE := ZmK h.hp pD pK h2 h3 h4
  cases hv : Z2o ls (Zl5 zs ls.length lv) (Z16 ls (Z07 (Z04 l).ps) ls.length)
  ·rw [hv] at pE
   have qO : Zb3 ls (Z04 l) (Zl5 zs ls.length lv) k = 2 := by rw [Zln h.hp pD pK hk, hv]; rfl
   refine ⟨false, 0, 2, (fun e => by cases e), pE, fun W' hW => ?_⟩
   refine (ZmN h pD qO (by decide) (h1.below hW) (h2.below hW) (h3.below hW) (h4.below hW)).mono ?_
   rintro e w' ⟨rfl, hb⟩
   exact ⟨_, _, _, _, _, _, _, _, _, _, _, _, _, rfl, hb⟩
  ·rw [hv] at pE
   have qO : Zb3 ls (Z04 l) (Zl5 zs ls.length lv) k = 0 := by rw [Zln h.hp pD pK hk, hv]; rfl
   refine ⟨true, (Z5y n ps ls l (Zl5 zs ls.length lv) (ZbD ls l (Zl5 zs ls.length lv) k)).total.cents, 0, (fun _ => ⟨rfl, ?_⟩), pE, fun W' hW => ?_⟩
   ·rw [pQ, pI]
    rw [pI] at pD pK hv
    exact Zlx h.hp pD pK hv _ _
   ·refine (ZiB h pD pK qO hk pZ W' vr vz v vp' vn (h1.below hW) (h2.below hW) (h3.below hW) (h4.below hW)).mono ?_
    rintro e w' ⟨av, cv, rfl, hb, _⟩
    exact ⟨_, _, _, _, _, _, _, _, _, _, _, _, _, rfl, hb⟩
 have qP : ∀ j (hj : j < l.length), lz.getD j (-1) = (ls.length : Int) - 1 := fun j hj => by
  have hj' : j < lz.length := by omega
  rw [Zl6 hj']
  subst qA
  exact List.getElem_replicate ..
 have tB : lz.length = l.length := by omega
 have sJ : zs.length = l.length := by omega
 have sK : Hid ((Z04 l).ps.length = l.length) := qM
 generalize sL : (Z04 l).ps = pcs at pC pB qN sK HM
 have pL : ∀ j (hj : j < zs.length), 0 <= zs.getD j (-1) /\ zs.getD j (-1) < (ls.length : Int) := fun j hj => by rw [Zl6 hj]; exact Z72 pH j hj
 have sM := Z0 pL
 have rJ := Z0 qP
 have tC := Z0 hk
 clear rH pQ qC pI qA qB pJ pR pP pH qM qP pL hM hT ht pZ hk
 rw [<- e1, <- e2, <- e3] at pB
 clear e1 e2 e3
 generalize M1.total.base = ba at pC pB
 generalize M1.total.bar = bra at pC pB
 generalize M1.total.pieces = pa at pC pB
 generalize M1.total.cents = ca at pC qN rI
 generalize M2.total.cents = cb at pB rI
 clear M1 M2
 have HQ : Hid (∀ W, OwnsP W 0 (.slice none 0 0) [] -> True) := fun _ _ => trivial
 clear HQ
 go_enter Tryz.func5, Tryz.ntmps5
 go_wp2_with fail
 refine (rG.out _ qL.out).mono ?_
 rintro e w1 ⟨rfl, qD⟩
 go_wp2_with fail
 refine (HT.out _ qD).mono ?_
 rintro e w2 ⟨ar, cr, az, cz, rfl, rK, rL⟩
 have qE := Z01 qD qD.size rK
 clear qD rK
 go_wp2_with fail
 obtain ⟨W2, pM⟩ : ∃ W2, W2 = w2.alloc (.cells #[.slice ar (Z1H n ps).rates.length cr, .slice az (Z1H n ps).zones.length cz] 29) := ⟨_, rfl⟩
 rw [<- pM]
 have b2 : Below w2.1.size w2 W2 := by rw [pM]; exact (Z9 _ w2).alloc (Z1 _) _
 refine (HM.out W2 (Z01 qE qE.size b2)).mono ?_
 rintro e w3 ⟨al, cl, ap, cp, gz, rfl, qF, rM, qQ, rN, sN⟩
 rw [sL] at qQ
 have t0 : W2.1[w2.1.size]? = some (.cells #[.slice ar (Z1H n ps).rates.length cr, .slice az (Z1H n ps).zones.length cz] 29 (0, 0)) := by rw [pM]; exact Z02 w2 _
 have s2 : W2.1.size = w2.1.size + 1 := by rw [pM]; simp
 have q3 := (qF.block _ (by omega)).trans t0
 have y0 := Kaa _ _ 0 _ _ _ q3
 have y1 := Kaa _ _ 1 _ _ _ q3
 have l3 : w2.1.size < w3.1.size := by have := qF.size; omega
 have pN := Z0 qE
 have rO := Z0 rL
 have rP := Z0 pM
 have rQ := Z0 qF
 have rR := Z0 rM
 have rS := Z0 qQ
 have rT := Z0 rN
 clear qE rL pM qF rM qQ rN sN t0 q3 b2 s2 rG HT HM
 go_wp2_with fail
 obtain ⟨W4, qR⟩ : ∃ W, W = (w3.alloc (.cells #[.int .u8 1, .int .u8 1, .string ⟨#[49, 48, 48, 50, 51]⟩, .slice ap l.length cp] 34)).alloc (.cells #[.int .i64 k.pieces, .int .i64 k.grams, .int .i64 k.bundles, .int .i64 k.trays] 37) := ⟨_, rfl⟩
 rw [<- qR]
 have pS := Z0 (Keep.of (k := k) qL.out pN.out rO.out rP.out rQ.out rR.out rS.out rT.out qR).1
 obtain ⟨T, rU⟩ : ∃ T, T = w2.1.size := ⟨_, rfl⟩
 obtain ⟨X, rV⟩ : ∃ X, X = w3.1.size := ⟨_, rfl⟩
 rw [<- rU] at y0 y1 l3 pS ⊢
 rw [<- rV] at l3 pS ⊢
 clear qR y0 y1 qL pN rO rP rQ rR rS rT rU rV
 have pT := pS.out W4 (Z9 _ _)
 refine (pC.out W4 _ _ _ _ _ pT.rt pT.rl pT.rp (Z92 pT.rz sJ)).mono ?_
 clear pT
 rintro e w5 ⟨x0, x1, x2, x3, x4, x5, x6, x7, x8, x9, rfl, qS⟩
 go_wp2_with fail
 obtain ⟨W6, pU⟩ : ∃ W, W = w5.alloc (.cells #[.slice x0 x1 x2, .int .i64 x3, .int .i64 pa, .int .i64 x4, .int .i64 x5, .int .i64 ba, .int .i64 bra, .int .i64 x6, .int .i64 ca, .int .i64 x7, .int .i64 x8, .int .i64 x9] 44) := ⟨_, rfl⟩
 rw [<- pU]
 have h6 : W6.1[w5.1.size]? = some (.cells #[.slice x0 x1 x2, .int .i64 x3, .int .i64 pa, .int .i64 x4, .int .i64 x5, .int .i64 ba, .int .i64 bra, .int .i64 x6, .int .i64 ca, .int .i64 x7, .int .i64 x8, .int .i64 x9] 44 (0, 0)) := by rw [pU]; exact Z02 w5 _
 have b6 : Below W4.1.size W4 W6 := by rw [pU]; exact qS.alloc qS.size _
 have s6 : W6.1.size = w5.1.size + 1 := by rw [pU]; simp
 obtain ⟨A, hA⟩ : ∃ A, A = w5.1.size := ⟨_, rfl⟩
 rw [<- hA] at h6 s6 ⊢
 have pF : Hid (∀ W, Below W6.1.size W6 W -> Keep w n ps ls l.length pcs zs k T X gz ar az al ap cr cz cl cp W /\ W.1[A]? = some (.cells #[.slice x0 x1 x2, .int .i64 x3, .int .i64 pa, .int .i64 x4, .int .i64 x5, .int .i64 ba, .int .i64 bra, .int .i64 x6, .int .i64 ca, .int .i64 x7, .int .i64 x8, .int .i64 x9] 44 (0, 0)) /\ A < W.1.size) := fun W hW => ⟨pS.out W (Z01 b6 b6.size hW), (hW.block _ (by omega)).trans h6, by have := hW.size; omega⟩
 have rW := fun W => run_make_row' (P := Tryz.prog) 35 3 (.int .i64 0) 8 Tryz.underlying35 ZfO rfl .i64 .i64 l.length (by omega) (by omega) W
 have rX := Z0 rW
 clear pU qS hA h6 b6 s6 pS rW pC
 rw [rX.out W6]
 have pV := Z4W W6 l.length
 have pW := (Z9 _ W6).alloc (Z1 _) (.cells (madeCells #[Value.int .i64 0] l.length) 3)
 have pX := Z0 pV
 have pY := Z0 pW
 clear pV pW
 go_wp2_with fail
 go_loopw [63] (fun i wr => ∃ (j : Nat) (zz : List Int), j <= l.length /\ i = .int .i64 j /\ Below W6.1.size W6 wr /\ IntsAt wr W6.1.size zz /\ zz.length = l.length /\ ∀ i, i < j -> zz.getD i (-1) = (ls.length : Int) - 1) (fun i _ => l.length - (intOf i).toNat)
 case atStart => exact ⟨0, List.replicate l.length 0, ZE _, rfl, pY.out, pX.out, Kcb, fun i hi => absurd hi (Ka2 _)⟩
 case round =>
  clear pX pY
  obtain ⟨wa, sO⟩ : ∃ x, x = wr := ⟨_, rfl⟩
  subst sO
  obtain ⟨j, zz, hj, rfl, hB, hI, qG, qH⟩ := hrel
  by_cases sP : j < l.length
  ·have z0f := hI.free j
   have z0 := hI.cell (i := j) (by omega)
   have d1 : decide ((j : Int) < (l.length : Int)) = true := Kac (by omega)
   have HN : Hid (IntsAt (wa.setCell ⟨W6.1.size, j, none⟩ (.int .i64 ((ls.length : Int) - 1))) W6.1.size (zz.set j ((ls.length : Int) - 1))) := hI.set j _
   have HV : Hid (∀ i, i < j + 1 -> (zz.set j ((ls.length : Int) - 1)).getD i (-1) = (ls.length : Int) - 1) := by
    intro i hi
    rw [Z2]
    by_cases e : i = j
    ·subst e
     rw [Kcw (by omega)]; rfl
    ·rw [List.getElem?_set_ne (by omega), <- Z2]
     exact qH i (by omega)
   have sQ : Hid ((zz.set j ((ls.length : Int) - 1)).length = l.length) := by
    show _ = _
    rw [Kb8]; exact qG
   have HB := Z0 hB
   clear hI qG qH hB
   go_wp2_with fail
   go_roundw
   case rel => exact ⟨j + 1, _, by omega, by go_num, HB.out.setCell (Z1 _) _, HN.out, sQ.out, HV.out⟩
   case measure => simp [intOf]; omega
  ·obtain rfl : j = l.length := by omega
   have d1 : decide ((l.length : Int) < (l.length : Int)) = false := by simp
   have pL : zz = lz := by
    refine Kcf (by omega) (fun i h1 h2 => ?_)
    have e1 := qH i (by omega)
    have e2 := rJ.out i (by omega)
    rw [Zl6 h1] at e1
    rw [Zl6 h2] at e2
    rw [e1, e2]
   subst pL
   obtain ⟨pA, ha, pG⟩ := pF.out wa hB
   have h1 := pA.rt
   have h2 := pA.rl
   have h3 := pA.rp
   have sR := pA.lt
   obtain ⟨t0, t1⟩ := pA.t
   obtain ⟨m0, m1, m2, m3⟩ := pA.m
   obtain ⟨k0, k1, k2, k3⟩ := pA.k
   obtain ⟨l0, l1, l2, l3⟩ := sR
   have h4 := Z92 hI qG
   have HR := Z0 (pB.out wa _ _ _ _ _ h1 h2 h3 h4)
   have qT := Z0 hB
   have sS := Z0 hI
   clear h1 h2 h3 h4 pA ha pG qH d1 rJ pB
   go_wp2_with fail
   refine HR.out.mono ?_
   clear HR t0 t1 m0 m1 m2 m3 k0 k1 k2 k3 l0 l1 l2 l3
   rintro e w8 ⟨z0, z1, z2, z3, z4, z5, z6, z7, z8, z9, rfl, rY⟩
   have b68 := Z01 qT.out qT.out.size rY
   obtain ⟨_, ha, pG⟩ := pF.out w8 b68
   obtain ⟨a0, a1, a2, a3, a4, a5, a6, a7, a8, a9, a10, a11⟩ := Z1w ha
   have sT : decide (cb < ca) = false := Kad (by omega)
   have rZ : Below W6.1.size W6 (w8.alloc (.cells #[.slice z0 z1 z2, .int .i64 z3, .int .i64 pa, .int .i64 z4, .int .i64 z5, .int .i64 ba, .int .i64 bra, .int .i64 z6, .int .i64 cb, .int .i64 z7, .int .i64 z8, .int .i64 z9] 44)) := b68.alloc b68.size _
   have sA := Z0 rZ
   clear ha rZ b68 rY qT sS hB hI qG
   go_wp2_with fail
   clear a0 a1 a2 a3 a4 a5 a6 a7 a8 a9 a10 a11 sT
   go_loopw [124] (fun i wr => ∃ lv : Nat, lv <= ls.length /\ i = .int .i64 lv /\ Below W6.1.size W6 wr) (fun i _ => ls.length - (intOf i).toNat)
   case atStart => exact ⟨0, ZE _, rfl, sA.out⟩
   case round =>
    clear sA
    obtain ⟨wb, sU⟩ : ∃ x, x = wr := ⟨_, rfl⟩
    subst sU
    obtain ⟨lv, qP, rfl, hB⟩ := hrel
    have HB := Z0 hB
    by_cases sP : lv < ls.length
    ·have d1 : decide ((lv : Int) < (ls.length : Int)) = true := Kac (by omega)
     have pV := Z4W wb l.length
     have pW := (Z9 _ wb).alloc (Z1 _) (.cells (madeCells #[Value.int .i64 0] l.length) 3)
     have pX := Z0 pV
     have pY := Z0 pW
     clear pV pW hB
     go_wp2_with fail
     rw [rX.out wb]
     go_wp2_with fail
     go_loopw [132] (fun i wr => ∃ (j : Nat) (yy : List Int), j <= l.length /\ i = .int .i64 j /\ Below wb.1.size wb wr /\ IntsAt wr wb.1.size yy /\ yy.length = l.length /\ ∀ i, i < j -> yy.getD i (-1) = (Zl5 zs ls.length lv).getD i (-1)) (fun i _ => l.length - (intOf i).toNat)
     case atStart => exact ⟨0, List.replicate l.length 0, ZE _, rfl, pY.out, pX.out, Kcb, fun i hi => absurd hi (Ka2 _)⟩
     case round =>
      clear pX pY
      obtain ⟨wc, sV⟩ : ∃ x, x = wr := ⟨_, rfl⟩
      subst sV
      obtain ⟨j, yy, hj, rfl, hB, hI, pO, qI⟩ := hrel
      have qJ := Z01 HB.out HB.out.size hB
      by_cases tD : j < l.length
      ·have qU := (pF.out wb HB.out).1
       have sW := qU.lt.2.2.2
       have hq : wc.cell? ⟨gz, j, none⟩ = some (.int .i64 (zs.getD j (-1))) := (hB.cell (p := ⟨gz, j, none⟩) sW).trans (qU.rz.cell (by omega))
       have sX := sM.out j (by omega)
       have qV : (Zl5 zs ls.length lv).getD j (-1) = if zs.getD j (-1) = (lv : Int) /\ lv + 1 < ls.length then (lv : Int) + 1 else zs.getD j (-1) := by
        rw [Zl6 (by rw [Zld]; omega), Zm5 _ _ (show j < zs.length by omega), Zl6 (show j < zs.length by omega)]
       have sB : ∀ (q : Int), q = (Zl5 zs ls.length lv).getD j (-1) -> ∀ i, i < j + 1 -> (yy.set j q).getD i (-1) = (Zl5 zs ls.length lv).getD i (-1) := by
        intro q hq i hi
        rw [Z2]
        by_cases e : i = j
        ·subst e
         rw [Kcw (by omega), hq]; rfl
        ·rw [List.getElem?_set_ne (by omega), <- Z2]
         exact qI i (by omega)
       have qW := Z0 sB
       generalize zs.getD j (-1) = u at hq sX qV
       have qX := Z0 qV
       have z0 := hI.cell (i := j) (by omega)
       have z0f := hI.free j
       have qY := hI.set j u
       have z1f := qY.free j
       have sC : ∀ u : Value, (wc.setCell ⟨wb.1.size, j, none⟩ u).cell? ⟨gz, j, none⟩ = wc.cell? ⟨gz, j, none⟩ := fun u => Kak (ZA _ _ _ _ (by show gz ≠ wb.1.size; omega))
       have q1 := (sC (.int .i64 u)).trans hq
       have tE : gz < wc.1.size := by have := hB.size; omega
       have pN := Z0 hB
       have qZ := Z0 qY
       have rA : Hid ((yy.set j u).length = l.length) := by
        show _ = _
        rw [Kb8]; exact pO
       have tF := Z0 pO
       have d2 : decide ((j : Int) < (l.length : Int)) = true := Kac (by omega)
       have tG : gz ≠ wb.1.size := by omega
       clear hB hI pO qI qV sB qY qU qJ sC
       by_cases c1 : u = (lv : Int)
       ·by_cases c2 : lv + 1 < ls.length
        ·have e1 : (u == (lv : Int)) = true := by simp [c1]
         have e2 : decide ((lv : Int) + 1 < (ls.length : Int)) = true := Kac (by omega)
         have HE : Hid ((lv : Int) + 1 = (Zl5 zs ls.length lv).getD j (-1)) := by
          show _ = _
          rw [qX.out, if_pos ⟨c1, c2⟩]
         clear c1 c2
         go_wp2_with fail
         go_roundw
         case rel =>
          refine ⟨j + 1, (yy.set j u).set j ((lv : Int) + 1), by omega, by go_num, (pN.out.setCell (Z1 _) _).setCell (Z1 _) _, qZ.out.set j _, by rw [Kb8]; exact rA.out, ?_⟩
          rw [List.set_set]
          exact qW.out _ HE.out
         case measure => simp [intOf]; omega
        ·have e1 : (u == (lv : Int)) = true := by simp [c1]
         have e2 : decide ((lv : Int) + 1 < (ls.length : Int)) = false := Kad (by omega)
         have HE : Hid (u = (Zl5 zs ls.length lv).getD j (-1)) := by
          show _ = _
          rw [qX.out, if_neg (fun h => c2 h.2)]
         clear c1 c2
         go_wp2_with fail
         go_roundw
         case rel => exact ⟨j + 1, yy.set j u, by omega, by go_num, pN.out.setCell (Z1 _) _, qZ.out, rA.out, qW.out _ HE.out⟩
         case measure => simp [intOf]; omega
       ·have e1 : (u == (lv : Int)) = false := by simp [c1]
        have HE : Hid (u = (Zl5 zs ls.length lv).getD j (-1)) := by
         show _ = _
         rw [qX.out, if_neg (fun h => c1 h.1)]
        clear c1
        go_wp2_with fail
        go_roundw
        case rel => exact ⟨j + 1, yy.set j u, by omega, by go_num, pN.out.setCell (Z1 _) _, qZ.out, rA.out, qW.out _ HE.out⟩
        case measure => simp [intOf]; omega
      ·obtain rfl : j = l.length := by omega
       have d2 : decide ((l.length : Int) < (l.length : Int)) = false := by simp
       have pL : yy = Zl5 zs ls.length lv := by
        refine Kcf (by rw [pO, Zld]; omega) (fun i h1 h2 => ?_)
        have e1 := qI i (by omega)
        rw [Zl6 h1, Zl6 h2] at e1
        exact e1
       subst pL
       obtain ⟨pA, ha, pG⟩ := pF.out wc qJ
       obtain ⟨m0, m1, m2, m3⟩ := pA.m
       obtain ⟨l0, l1, l2, l3⟩ := pA.lt
       have h4 := Z92 hI pO
       obtain ⟨ok, C, E, sD, pE, sE⟩ := qN.out lv wc _ _ _ _ _ pA.rt pA.rl pA.rp h4
       have sF := Z0 pE
       have sG := Z0 sE
       have sY := Z0 sD
       have rB := Z0 qJ
       clear pA ha pG h4 pE sE sD qJ hB hI pO qI
       go_wp2_with fail
       refine sF.out.mono ?_
       clear sF m0 m1 m2 m3 l0 l1 l2 l3
       rintro e w10 ⟨rfl, rC⟩
       have rD := Z01 rB.out rB.out.size rC
       obtain ⟨pA, ha, pG⟩ := pF.out w10 rD
       obtain ⟨t0, t1⟩ := pA.t
       obtain ⟨m0, m1, m2, m3⟩ := pA.m
       obtain ⟨k0, k1, k2, k3⟩ := pA.k
       obtain ⟨l0, l1, l2, l3⟩ := pA.lt
       have HR := Z0 (sG.out w10 rC)
       have rE := Z0 rD
       clear pA ha pG rC rD sG rB
       go_wp2_with fail
       refine HR.out.mono ?_
       clear HR t0 t1 m0 m1 m2 m3 k0 k1 k2 k3 l0 l1 l2 l3
       rintro e w11 ⟨y0, y1, y2, y3, y4, y5, y6, y7, y8, y9, y10, y11, y12, rfl, sH⟩
       have rF := Z01 rE.out rE.out.size sH
       obtain ⟨_, ha, pG⟩ := pF.out w11 rF
       obtain ⟨a0, a1, a2, a3, a4, a5, a6, a7, a8, a9, a10, a11⟩ := Z1w ha
       have qK := Z0 rF
       clear ha sH rF rE
       cases ok
       ·go_wp2_with fail
        go_roundw
        case rel => exact ⟨lv + 1, by omega, by go_num, qK.out.alloc qK.out.size _⟩
        case measure => simp [intOf]; omega
       ·obtain ⟨rfl, sZ⟩ := sY.out rfl
        have tH : decide (C < ca) = false := Kad (by omega)
        clear sZ
        go_wp2_with fail
        go_roundw
        case rel => exact ⟨lv + 1, by omega, by go_num, qK.out.alloc qK.out.size _⟩
        case measure => simp [intOf]; omega
    ·obtain rfl : lv = ls.length := by omega
     have d1 : decide ((ls.length : Int) < (ls.length : Int)) = false := by simp
     have pA := (pF.out wb hB).1.bw
     clear hB
     go_wp2_with fail
     go_ret
     exact ⟨rfl, pA⟩
end Go.Proofs.YtlgajongmkhcnaaGreatDoor
