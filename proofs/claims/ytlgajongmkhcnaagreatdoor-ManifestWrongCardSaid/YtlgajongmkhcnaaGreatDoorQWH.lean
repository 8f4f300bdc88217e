import Derived.Test.YtlgajongmkhcnaaGreatDoorQWG
import Derived.BigQuiet
set_option maxRecDepth 100000
set_option linter.unusedVariables false
set_option linter.unusedSimpArgs false
set_option maxHeartbeats 32000000
namespace Go.Proofs.YtlgajongmkhcnaaGreatDoor
section
open Go.RowKit Go.Sort
theorem Zhp {w : World} {g : Nat} {a b : Value} {t : TypeId} {fr : Nat × Nat} (h : w.1[g]? = some (.cells #[a, b] t fr)) : w.cell? ⟨g, 0, none⟩ = some a /\ w.cell? ⟨g, 1, none⟩ = some b := ⟨Kaa _ _ 0 _ _ _ h, Kaa _ _ 1 _ _ _ h⟩
theorem Z4c (k : Pck) (l : Lod) (vb vt vc : Value) (w : World) (hr : RdLod w vb vt vc l) (hs : SmallL l) :
 Calls Tryz.prog 79 #[Z1R k, Zc8 vb vt vc] w fun e w' => ∃ v, e = .returned v /\ Below w.1.size w w' /\ IsB v (ConsOk k l) := by
 obtain ⟨i0, hi⟩ := info_parts Tryz.infoSlT
 have HI := Z0 hi
 obtain ⟨ab, cb, rW, sU⟩ := hr.b
 obtain ⟨at', ct, qN, wD⟩ := hr.t
 obtain ⟨ac, cc, uC, wE⟩ := hr.c
 subst rW qN uC
 have iV := hs.t
 have iW := hs.c
 have iX := hs.ci
 have rK := fun x hx => ZaL (f := fun t : Con => t.ts) hs.ci x hx
 have xY := Z0 (fun W v (hb : Zje W v (l.cons.map (fun t => t.ts))) => Zc5 (l.cons.map (fun t => t.ts)) l.tras.length k.trays v W hb (by omega) (by rw [Z1s]; omega) (by rw [Z7]; omega))
 have qO := fun (h : OnceOk (l.cons.map (fun t => t.ts)) l.tras.length k.trays) (h2 : ∀ t ∈ l.cons, ∀ i ∈ t.ts, ∃ b, l.tras[i.toNat]? = some b /\ b.lvl = t.lvl) => (⟨h, h2⟩ : ConsOk k l)
 have xZ := fun (h : ConsOk k l) => h
 unfold Zc8 Z1R
 obtain ⟨kp, kg, kb, kt⟩ := k
 obtain ⟨bs, ts, cs⟩ := l
 dsimp only at *
 obtain ⟨w2, uD⟩ : ∃ w2, w2 = (w.alloc (.cells #[.int .i64 kp, .int .i64 kg, .int .i64 kb, .int .i64 kt] 37)).alloc (.cells #[.slice ab bs.length cb, .slice at' ts.length ct, .slice ac cs.length cc] 52) := ⟨_, rfl⟩
 obtain ⟨g1, g2, z2, b2⟩ := Z8n uD
 obtain ⟨x0, x1, x2⟩ := cells3 g2
 have yA := Z0 uD
 have pW := Z0 b2
 have HL := Z0 (fun (W : World) (hB : Below w2.1.size w2 W) => And.intro (Z0r ((hB.block _ (by omega)).trans g1)) (cells3 ((hB.block _ (by omega)).trans g2)))
 have yB := Z0 wD
 have wF := Z0 wE
 have rL := Z0 qO
 have yC := Z0 rK
 clear uD g1 g2 z2 b2 sU wD wE hr hs qO xZ hi rK
 go_enter Tryz.func79, Tryz.ntmps79
 go_upto_region 1 with fail
 rw [<- yA.out]
 go_wp2_with (at_make; refine wpList_make_own _ rfl _ _ 109 rfl w2.1.size 35 i0 (.slice none 0 0) 1 Tryz.underlying109 HI.out.1 HI.out.2.1 HI.out.2.2.1 _ _ _ cs.length rfl (by first | rfl | simp) rfl (by rw [HI.out.2.2.2]; omega) (by unfold maxLen; omega) (Z1 _) ?_; intro w3 pX pI; have pJ : Below w2.1.size w2 w3 := (Z9 _ _).grown pI (Z1 _) (fun _ e => by cases e); have pA := Z0 pJ; have yD := Z0 pX; clear pI pX; obtain ⟨⟨u0, u1, u2, u3⟩, v0, v1, v2⟩ := HL.out w3 pJ)
 go_loopw [5, 19] (fun lv i wx => ∃ q : Nat, q <= cs.length /\ i = .int .i64 q /\ Below w2.1.size w2 wx /\ OwnsRL w wx w2.1.size lv ((cs.take q).map (fun t => t.ts))) (fun _ i _ => cs.length - (intOf i).toNat)
 case atStart => exact ⟨0, ZE _, rfl, pA.out, ⟨[], by simp, by simp, yD.out⟩⟩
 case round =>
  clear u0 u1 u2 u3 v0 v1 v2 pJ x0 x1 x2
  obtain ⟨q, hq, rfl, hB, hO⟩ := hrel
  have pS := Z0 hB
  by_cases pB : q < cs.length
  ·obtain ⟨g, off, rfl, hg, rX⟩ := wF.out (by omega)
   obtain ⟨s, hs, pP⟩ := rX q pB
   have pE : (cs.take (q + 1)).map (fun t => t.ts) = (cs.take q).map (fun t => t.ts) ++ [cs[q].ts] := by rw [Z8 pB, ZD]; rfl
   obtain ⟨t, ht⟩ : ∃ t, t = cs[q] := ⟨_, rfl⟩
   rw [<- ht] at hs pP pE
   have pC : Below w.1.size w wr := pW.out.trans (hB.mono pW.out.size)
   have f0 : wr.cell? ⟨g, off + q * 2, none⟩ = some (.int .i64 t.lvl) := (pC.cell (p := ⟨g, off + q * 2, none⟩) hg).trans (pP 0 _ rfl)
   have f2 : wr.cell? ⟨g, off + q * 2 + 1, none⟩ = some s := (pC.cell (p := ⟨g, off + q * 2 + 1, none⟩) hg).trans (pP 1 _ rfl)
   have HS := Z0 hs
   obtain ⟨as1, cs', rfl, _⟩ := hs
   have sV := Z0 pE
   obtain ⟨av, cv, rY⟩ := hO.form
   have sW : ((cs.take q).map (fun t => t.ts)).length = q := by rw [Z7, Kax]; omega
   rw [sW] at rY
   subst rY
   obtain ⟨L, hL, hLr, hLo⟩ := hO
   have yE : L.length = q := by rw [<- sW, <- hL, Z7]
   subst yE
   have yF := Z0 hL
   have yG := Z0 hLr
   have wG := (hLo.alloc (.cells #[.int .i64 t.lvl, .slice as1 t.ts.length cs'] 114)).alloc (.cells #[.slice as1 t.ts.length cs'] 35)
   have yH := Z0 wG
   have yI := Z0 (fun r e => (hLo.lt r e).1)
   clear ht pP rX pC pE hL hLr hLo wG sW hB
   go_wp2_with (at_builtin; refine wpList_append_own _ rfl _ _ 109 rfl w2.1.size 35 i0 (.slice none 0 0) 1 24 Tryz.underlying109 HI.out.1 HI.out.2.1 HI.out.2.2.1 HI.out.2.2.2 rfl (by decide) _ L.length _ rfl yH.out ⟨wr.1.size + 1, 0, none⟩ 1 1 [.slice as1 t.ts.length cs'] rfl (by simp) (by simpa using cell_one_new (wr.alloc (.cells #[.int .i64 t.lvl, .slice as1 t.ts.length cs'] 114)) (.slice as1 t.ts.length cs') 35) (by simp [Value.oneCell']) (by unfold maxLen; omega) (by omega) (by have := pS.out.size; simp; omega) ?_; intro v' w5 yJ pI _)
   go_roundw
   case rel =>
    refine ⟨L.length + 1, by omega, by go_num, ((pS.out.alloc pS.out.size _).alloc (by have := pS.out.size; simp; omega) _).grown pI (by have := pS.out.size; simp; omega) (fun r e => yI.out r e), L ++ [(t.ts, .slice as1 t.ts.length cs')], ?_, ?_, ?_⟩
    ·rw [sV.out, ZD, yF.out]; rfl
    ·intro p hp
     rcases ZG.1 hp with hp | hp
     ·exact yG.out p hp
     ·rw [ZI.1 hp]; exact HS.out
    ·rw [ZC, ZD]
     exact yJ
   case measure => simp [intOf]; omega
  ·obtain rfl : q = cs.length := by omega
   rw [Kat] at hO
   have pC : Below w.1.size w wr := pW.out.trans (hB.mono pW.out.size)
   have HR := Z0 (hO.rd pC)
   obtain ⟨av, cv, rY⟩ := hO.form
   rw [Z7] at rY
   subst rY
   have sX := Z0 pC
   obtain ⟨⟨u0, u1, u2, u3⟩, v0, v1, v2⟩ := HL.out wr hB
   clear hO pC hB
   go_upto_region 7 with fail
   go_cut [36] from 29 to 36 (fun b wx => ∃ c : Bool, b = .bool (!c) /\ (c = true ↔ OnceOk (cs.map (fun t => t.ts)) ts.length kt) /\ Below wr.1.size wr wx)
   case first =>
    go_wp2_with (go_at_call 114; refine (xY.out wr _ HR.out).mono ?_; rintro e w6 ⟨vv, rfl, pK, r, rfl, hr⟩)
    go_meet
    exact ⟨r, rfl, hr, pK⟩
   case rest =>
    clear u0 u1 u2 u3 v0 v1 v2
    obtain ⟨wp, yK⟩ : ∃ x, x = wc := ⟨_, rfl⟩
    subst yK
    obtain ⟨c, rfl, hc, wH⟩ := hcut
    have uE := Z0 (pS.out.trans (wH.mono pS.out.size))
    have HC := Z0 hc
    clear wH hc
    cases c
    ·have hr : ¬ ConsOk ⟨kp, kg, kb, kt⟩ ⟨bs, ts, cs⟩ := fun h => by have := HC.out.2 h.once; cases this
     have rZ := Z0 hr
     clear hr
     go_wp2_with fail
     go_ret
     exact ⟨_, rfl, pW.out.trans (uE.out.mono pW.out.size), IsB.no rZ.out⟩
    ·have uF := HC.out.1 rfl
     have rM := fun t (ht : t ∈ cs) i (hi : i ∈ t.ts) => uF.ins i (by rw [Z1s]; exact Ka5.2 ⟨t, ht, hi⟩)
     have yL := Z0 uF
     have yM := Z0 rM
     obtain ⟨⟨u0, u1, u2, u3⟩, v0, v1, v2⟩ := HL.out wp uE.out
     clear uF rM
     go_wp2_with fail
     go_loopw [40] (fun i wx => ∃ q : Nat, q <= cs.length /\ i = .int .i64 q /\ Below w2.1.size w2 wx /\ ∀ t ∈ cs.take q, ∀ i ∈ t.ts, ∃ b, ts[i.toNat]? = some b /\ b.lvl = t.lvl) (fun i _ => cs.length - (intOf i).toNat)
     case atStart => exact ⟨0, ZE _, rfl, uE.out, by simp⟩
     case round =>
      clear u0 u1 u2 u3 v0 v1 v2
      obtain ⟨wo, pY⟩ : ∃ x, x = wr := ⟨_, rfl⟩
      subst pY
      obtain ⟨q, hq, rfl, hB, rN⟩ := hrel
      have HB := Z0 hB
      have pZ := Z0 rN
      clear rN
      by_cases pB : q < cs.length
      ·obtain ⟨g, off, rfl, hg, rX⟩ := wF.out (by omega)
       obtain ⟨s, hs, pP⟩ := rX q pB
       have pC : Below w.1.size w wo := pW.out.trans (hB.mono pW.out.size)
       have sY := Z4 pB
       have pE : cs.take (q + 1) = cs.take q ++ [cs[q]] := Z8 pB
       have yN := yC.out _ sY
       have rM := yM.out _ sY
       have pG : ConsOk ⟨kp, kg, kb, kt⟩ ⟨bs, ts, cs⟩ -> ∀ i ∈ cs[q].ts, ∃ b, ts[i.toNat]? = some b /\ b.lvl = cs[q].lvl := fun h => h.grp _ sY
       obtain ⟨t, ht⟩ : ∃ t, t = cs[q] := ⟨_, rfl⟩
       rw [<- ht] at hs pP pE yN rM pG
       have f0 : wo.cell? ⟨g, off + q * 2, none⟩ = some (.int .i64 t.lvl) := (pC.cell (p := ⟨g, off + q * 2, none⟩) hg).trans (pP 0 _ rfl)
       have f2 : wo.cell? ⟨g, off + q * 2 + 1, none⟩ = some s := (pC.cell (p := ⟨g, off + q * 2 + 1, none⟩) hg).trans (pP 1 _ rfl)
       obtain ⟨as1, cs', rfl, wI⟩ := hs
       obtain ⟨Wt, sA⟩ : ∃ W, W = wo.alloc (.cells #[.int .i64 t.lvl, .slice as1 t.ts.length cs'] 114) := ⟨_, rfl⟩
       have hn := Z02 wo (.cells #[.int .i64 t.lvl, .slice as1 t.ts.length cs'] 114)
       have uG : Below wo.1.size wo Wt := by rw [sA]; exact (Z9 _ _).alloc (Z1 _) _
       have wJ : wo.1.size < Wt.1.size := by rw [sA, Z6]; exact Ka4 _
       rw [<- sA] at hn
       have yO := Z0 sA
       have HN := Z0 hn
       have sB := Z0 wJ
       have sV := Z0 pE
       have yP := Z0 rM
       have qE := Z0 pG
       have yQ := Z0 wI
       have sZ := Z0 (HB.out.trans (uG.mono HB.out.size))
       have rO := Z0 (pC.trans (uG.mono pC.size))
       obtain ⟨n0, n1⟩ := Zhp hn
       clear ht pP rX sA hn wJ pE rM pG wI pC uG sY hB
       go_upto_region 12 with fail
       rw [<- yO.out]
       go_wp2_with fail
       go_loopw [47] (fun i wx => ∃ p : Nat, p <= t.ts.length /\ i = .int .i64 p /\ Below Wt.1.size Wt wx /\ ∀ i ∈ t.ts.take p, ∃ b, ts[i.toNat]? = some b /\ b.lvl = t.lvl) (fun i _ => t.ts.length - (intOf i).toNat)
       case atStart => exact ⟨0, ZE _, rfl, Z9 _ _, by simp⟩
       case round =>
        clear n0 n1 f0 f2
        obtain ⟨wi, sC⟩ : ∃ x, x = wr := ⟨_, rfl⟩
        subst sC
        obtain ⟨p, hp, rfl, hB, wK⟩ := hrel
        have pA := Z0 hB
        have uH := Z0 wK
        clear wK
        by_cases qU : p < t.ts.length
        ·obtain ⟨gs, os, rfl, uI, sD⟩ := yQ.out (by omega)
         have pC : Below w.1.size w wi := rO.out.trans (hB.mono rO.out.size)
         have e1 := (pC.cell (p := ⟨gs, os + p, none⟩) uI).trans (sD p qU)
         obtain ⟨i0', i1'⟩ := yP.out _ (Z4 qU)
         have pG := fun h => qE.out h _ (Z4 qU)
         have uJ : t.ts.take (p + 1) = t.ts.take p ++ [t.ts[p]] := Z8 qU
         obtain ⟨x, hx⟩ : ∃ x, x = t.ts[p] := ⟨_, rfl⟩
         rw [<- hx] at e1 i0' i1' pG uJ
         obtain ⟨j, rfl⟩ : ∃ j : Nat, x = (j : Int) := ⟨x.toNat, by omega⟩
         have hj : j < ts.length := by omega
         rw [Kar, Z3 hj] at pG
         obtain ⟨gb, ob, rfl, yR, sU⟩ := yB.out (by omega)
         obtain ⟨sb, _, pP⟩ := sU j hj
         have uK : ts[j]? = some ts[j] := Z3 hj
         obtain ⟨b, wL⟩ : ∃ b, b = ts[j] := ⟨_, rfl⟩
         rw [<- wL] at pP pG uK
         have b0 : wi.cell? ⟨gb, ob + j * 3, none⟩ = some (.int .i64 b.lvl) := (pC.cell (p := ⟨gb, ob + j * 3, none⟩) yR).trans (pP 0 _ rfl)
         obtain ⟨⟨u0, u1, u2, u3⟩, v0, v1, v2⟩ := HL.out wi (sZ.out.trans (hB.mono sZ.out.size))
         obtain ⟨n0, n1⟩ := Zhp ((hB.block _ sB.out).trans HN.out)
         have yS := Z0 pG
         have yT := Z0 uJ
         have yU := Z0 uK
         clear pP sU wL pG uJ uK hx sD pC hB i0' i1'
         by_cases q1 : b.lvl = t.lvl
         ·have pQ : (b.lvl != t.lvl) = false := by simp [q1]
          have Q := Z0 q1
          clear q1
          go_wp2_with fail
          go_quiet (fail)
          go_wp2_with fail
          go_roundw
          case rel =>
           refine ⟨p + 1, by omega, by go_num, (by first | exact below_drewN pA.out _ | exact pA.out.drew), ?_⟩
           rw [yT.out]
           intro y hy
           rcases ZG.1 hy with hy | hy
           ·exact uH.out y hy
           ·rw [ZI.1 hy, Kar]
            exact ⟨b, yU.out, Q.out⟩
          case measure => simp [intOf]; omega
         ·have pQ : (b.lvl != t.lvl) = true := by simp [q1]
          have hr : ¬ ConsOk ⟨kp, kg, kb, kt⟩ ⟨bs, ts, cs⟩ := fun h => by
           obtain ⟨b', h1, h2⟩ := yS.out h
           obtain rfl := Kav h1
           exact q1 h2
          have rZ := Z0 hr
          clear hr q1
          go_wp2_with fail
          go_quiet (fail)
          go_wp2_with fail
          go_ret
          exact ⟨_, rfl, by first | exact below_drewN (rO.out.trans (pA.out.mono rO.out.size)) _ | exact (rO.out.trans (pA.out.mono rO.out.size)).drew, IsB.no rZ.out⟩
        ·obtain rfl : p = t.ts.length := by omega
         rw [Kat] at uH
         clear hB
         go_wp2_with fail
         go_roundw
         case rel =>
          refine ⟨q + 1, by omega, by go_num, sZ.out.trans (pA.out.mono sZ.out.size), ?_⟩
          rw [sV.out]
          intro y hy
          rcases ZG.1 hy with hy | hy
          ·exact pZ.out y hy
          ·rw [ZI.1 hy]
           exact uH.out
         case measure => simp [intOf]; omega
      ·obtain rfl : q = cs.length := by omega
       have rN := pZ.out
       rw [Kat] at rN
       have rZ := Z0 (rL.out yL.out rN)
       clear rN hB
       go_wp2_with fail
       go_ret
       exact ⟨_, rfl, pW.out.trans (HB.out.mono pW.out.size), IsB.yes rZ.out⟩
theorem ZhM {ls : List Lev} {m : Mai} (h : HasPlan ls m) (v vp vz : Value) (zs : List Int) (k : Pck) (w : World) (hr : RdLevs w v ls) (pR : RdPces w vp m.ps) (hz : RdInts w vz zs) (pM : zs.length = m.ps.length) (hn : Z1K ls.length zs = true) (hA : Z4V ls m zs k = 0)
 (hk : Z5R k = true) (qF : ∀ p ∈ m.ps, p.grams <= k.grams) :
 Calls Tryz.prog 12 #[v, Z0N m vp, vz, Z1R k] w fun e w' => ∃ vb vt vc, e = .returned (.tuple #[Zc8 vb vt vc, .int .i64 0]) /\ Below w.1.size w w' /\
  OwnsX 67 4 Z1H (fun b => b.ids) w' w.1.size vb (Z24 k m.ps zs (Z0T ls (Z06 m.ps) ls.length) (Z0T ls (Z06 m.ps) ls.length).length).buns /\
  OwnsX 112 3 Z4Z (fun t => t.bs) w' w.1.size vt (Z24 k m.ps zs (Z0T ls (Z06 m.ps) ls.length) (Z0T ls (Z06 m.ps) ls.length).length).tras /\
  OwnsX 114 2 Z5s (fun c => c.ts) w' w.1.size vc (Z24 k m.ps zs (Z0T ls (Z06 m.ps) ls.length) (Z0T ls (Z06 m.ps) ls.length).length).cons := by
 obtain ⟨j0, hj⟩ := info_parts Tryz.infoB4
 have tA := Z0 hj
 obtain ⟨j1, wM⟩ := info_parts Tryz.infoTr
 have tB := Z0 wM
 obtain ⟨j2, wN⟩ := info_parts Tryz.infoCo
 have tC := Z0 wN
 have rK := h.few
 have yV := Z0y h.right
 have uL := h.groups_few
 obtain ⟨qV, sE⟩ := Z8L h.mail
 have pT : (Z06 m.ps).length = m.ps.length := Z1A _
 have hG : GrpsIn m.ps (Z0T ls (Z06 m.ps) ls.length) := Zbg pT
 have hO : OwnIn m.ps zs (Z0T ls (Z06 m.ps) ls.length) := Zce pT pM hn
 have qG : (1 <= k.pieces /\ k.pieces <= 2000 /\ 1 <= k.grams /\ k.grams <= 1000000) /\ (1 <= k.bundles /\ k.bundles <= 200 /\ 1 <= k.trays /\ k.trays <= 200) := by
  unfold Z5R at hk
  rw [ZF, Kab, Kab] at hk
  exact hk
 have pZ := Z0 (fun W (hW : Below w.1.size w W) => Z2o ls v vp vz m zs k W (hr.below hW) (Z1t h.right) (by omega) (pR.below hW) h.rng h.org (by omega) (fun p hp => by have := Z0i ((Z1w h.mail).2 p hp); unfold maxLen; omega) (hz.below hW) (by omega))
 rw [hA] at pZ
 have sF := Z0 (fun W (hW : Below w.1.size w W) => Z73 h (hr.below hW) (pR.below hW))
 have rC : ∀ x ∈ Z0T ls (Z06 m.ps) ls.length, x.items.length <= 2000 := fun x hx => by
  obtain ⟨mm, n, _, _, rfl⟩ := Z27.1 hx
  have := Z6T ls (Z06 m.ps) mm n
  show (itm ls (Z06 m.ps) mm n).length <= 2000
  omega
 obtain ⟨Gs, rD⟩ : ∃ Gs, Gs = Z0T ls (Z06 m.ps) ls.length := ⟨_, rfl⟩
 rw [<- rD] at uL hG hO sF rC ⊢
 have wO := Z0 (fun (x : Grp) (hx : x ∈ Gs) sv W (hW : Below w.1.size w W) (hs : RdInts W sv x.items) => Z95 x sv vp vz m zs k W hs (pR.below hW) (hz.below hW) pM rK (rC x hx) (fun i hi => (hG.items x hx).2 i hi) ⟨qG.1.1, qG.1.2.1, by omega, qG.1.2.2.2⟩ (fun p hp => ⟨by have := qV p hp; omega, by have := qV p hp; omega, qF p hp⟩))
 have uM := Z0 (fun n hn => ZbY (k := k) (ps := m.ps) (zs := zs) (Gs := Gs) qG.1.1 (by omega) qG.2.1 qG.2.2.2.1 qF sE hG hO n hn)
 have iY := Z0 pR
 have yW := Z0 qF
 have tD := Z0 (fun j hj he st pD bs pU ts pF => Zgk (k := k) (ps := m.ps) (zs := zs) (Gs := Gs) (j := j) hj he (st := st) pD (bs := bs) pU (ts := ts) pF)
 have tE := Z0 (fun j hj he st pD bs pU ts pF => Zgl (k := k) (ps := m.ps) (zs := zs) (Gs := Gs) (j := j) hj he (st := st) pD (bs := bs) pU (ts := ts) pF)
 obtain ⟨av, cv, rfl, wP⟩ := pR
 have sG := Z0 wP
 clear hj wM wN qV sE pT hG hO hk rC rD hr hz hn hA h wP qF
 obtain ⟨pkS, uN⟩ : ∃ f : Nat -> PkS, f = Z24 k m.ps zs Gs := ⟨_, rfl⟩
 have wQ : Hid (pkS 0 = ⟨[], [], [], 0⟩) := by rw [uN]; unfold Z24; rfl
 rw [<- uN] at uM tD tE ⊢
 have yX : Hid (∀ x, Z0S k m.ps zs x = Z0S k m.ps zs x) := fun _ => rfl
 obtain ⟨bOf, wR⟩ : ∃ f : Grp -> List Bun, f = Z0S k m.ps zs := ⟨_, rfl⟩
 rw [<- wR] at tD tE wO
 unfold Z0N Z1R Zc8 at *
 obtain ⟨kp, kg, kb, kt⟩ := k
 obtain ⟨cls, ctr, org, ps⟩ := m
 dsimp only at *
 obtain ⟨rP, iZ⟩ := qG
 obtain ⟨kb, rfl⟩ : ∃ n : Nat, kb = (n : Int) := ⟨kb.toNat, by omega⟩
 obtain ⟨kt, rfl⟩ : ∃ n : Nat, kt = (n : Int) := ⟨kt.toNat, by omega⟩
 rw [Kar, Kar] at tD
 rw [Kar] at tE
 clear uN wR yX
 obtain ⟨w3, pL⟩ : ∃ w3, w3 = ((w.alloc (.cells #[.int .u8 cls, .int .u8 ctr, .string org, .slice av ps.length cv] 34)).alloc (.cells #[.int .i64 kp, .int .i64 kg, .int .i64 kb, .int .i64 kt] 37)).alloc (.cells #[.slice none 0 0, .slice none 0 0, .slice none 0 0] 52) := ⟨_, rfl⟩
 obtain ⟨g1, g2, g3⟩ := Z5L pL
 have tF : w3.1.size = w.1.size + 1 + 1 + 1 := by rw [pL, Z6, Z6, Z6]
 have pJ : Below w.1.size w w3 := by
  rw [pL]
  exact (((Z9 _ w).alloc (Z1 _) _).alloc (by simp) _).alloc (by simp; omega) _
 have pH := Z0 (fun (W : World) (hB : Below w3.1.size w3 W) => And.intro (Z0r ((hB.block _ (by omega)).trans g1)) (Z0r ((hB.block _ (by omega)).trans g2)))
 have yY := Z0 (fun (W : World) (hB : Below w3.1.size w3 W) => (hB.block _ (by omega)).trans g3)
 have uO := Z0 (fun (W : World) (hB : Below w3.1.size w3 W) => (fun j => Z2t (i := j) ((hB.block _ (by omega)).trans g3) : ∀ j, W.frozen? ⟨w.1.size + 1 + 1, j, none⟩ = false))
 have sH := Z0 pL
 have pA := Z0 pJ
 have jA := Z0 tF
 clear pL pJ tF g1 g2 g3
 obtain ⟨⟨x0, x1, x2, x3⟩, y0, y1, y2, y3⟩ := pH.out w3 (Z9 _ _)
 go_enter Tryz.func12, Tryz.ntmps12
 go_upto_region 1 with fail
 rw [<- sH.out]
 go_wp2_with (go_at_call 29; refine (pZ.out _ pA.out).mono ?_; rintro e w4 ⟨rfl, qA⟩; obtain ⟨⟨f0, f1, f2, f3⟩, e0, e1, e2, e3⟩ := pH.out w4 qA)
 go_loopw [37] (fun i wx => ∃ j : Nat, j <= ps.length /\ i = .int .i64 j /\ Below w3.1.size w3 wx) (fun i _ => ps.length - (intOf i).toNat)
 case atStart => exact ⟨0, ZE _, rfl, qA⟩
 case round =>
  clear f0 f1 f2 f3 e0 e1 e2 e3 qA x0 x1 x2 x3 y0 y1 y2 y3
  obtain ⟨j, hj, rfl, hB⟩ := hrel
  have pS := Z0 hB
  by_cases pB : j < ps.length
  ·obtain ⟨g, off, rfl, hg, qW⟩ := sG.out (by omega)
   have hp := ((qW j pB).below pA.out hg).below hB (ZH hg pA.out.size)
   have uP := yW.out _ (Z4 pB)
   obtain ⟨p, wS⟩ : ∃ p, p = ps[j] := ⟨_, rfl⟩
   rw [<- wS] at hp uP
   obtain ⟨id, pt, cd, gr, br⟩ := p
   obtain ⟨p0, p1, p2, p3, p4⟩ := hp
   dsimp only at p0 p1 p2 p3 p4 uP
   obtain ⟨⟨f0, f1, f2, f3⟩, e0, e1, e2, e3⟩ := pH.out (wr.alloc (.cells #[.int .i64 id, .int .i64 pt, .string cd, .int .i64 gr, .bool br] 65)) (hB.alloc hB.size _)
   have sW : ¬ gr > kg := by omega
   clear wS qW hB uP
   go_wp2_with fail
   go_roundw
   case rel => exact ⟨j + 1, by omega, by go_num, pS.out.alloc pS.out.size _⟩
   case measure => simp [intOf]; omega
  ·obtain ⟨⟨f0, f1, f2, f3⟩, e0, e1, e2, e3⟩ := pH.out wr hB
   have pC : Below w.1.size w wr := pA.out.trans (hB.mono pA.out.size)
   have sX := Z0 pC
   clear hB pC
   go_wp2_with (go_at_call 30; refine (sF.out _ sX.out).mono ?_; rintro e wg ⟨ag, cg, rfl, qH, sI⟩; have pV := Z0 (pS.out.trans (qH.mono pS.out.size)); have qX := Z0 (sX.out.trans (qH.mono sX.out.size)); have tG := Z0 sI; clear qH sI)
   have hj' : j = ps.length := by omega
   clear pB hj' hj e0 e1 e2 e3 f0 f1 f2 f3
   have wT : Hid (LodW (wg.alloc (.cells #[.slice none 0 0, .slice none 0 0, .slice none 0 0] 52)) wg.1.size wg.1.size [] [] [] (.slice none 0 0) (.slice none 0 0) (.slice none 0 0)) := ⟨Z02 wg _, OwnsX.nil _ _, OwnsX.nil _ _, OwnsX.nil _ _⟩
   go_loopw [16, 60] (fun bg i wx => ∃ (j : Nat) (vb vt vc : Value), j <= Gs.length /\ i = .int .i64 j /\ bg = .int .i64 ((pkS j).beg : Nat) /\ Below wg.1.size wg wx /\ LodW wx wg.1.size wg.1.size (pkS j).buns (pkS j).tras (pkS j).cons vb vt vc) (fun _ i _ => Gs.length - (intOf i).toNat)
   case atStart => exact ⟨0, _, _, _, ZE _, rfl, by rw [wQ.out]; rfl, (Z9 _ _).alloc (Z1 _) _, by rw [wQ.out]; exact wT.out⟩
   case round =>
    clear wT
    obtain ⟨wo, pY⟩ : ∃ x, x = wr := ⟨_, rfl⟩
    subst pY
    obtain ⟨j, vb, vt, vc, hj, rfl, rfl, hB, hL⟩ := hrel
    have HB := Z0 hB
    by_cases pB : j < Gs.length
    ·have yZ := uM.out j (by omega)
     have qY := uM.out (j + 1) pB
     have qI := tD.out j pB
     have qJ := tE.out j pB
     have uQ := wO.out Gs[j] (Z4 pB)
     have wU := ZgP (Gs := Gs) (j := j)
     obtain ⟨gg, og, rfl, tH, qZ⟩ := RdGrps.lies tG.out (by omega)
     obtain ⟨sv, hsv, rA⟩ := qZ j pB
     obtain ⟨x, hx⟩ : ∃ x, x = Gs[j] := ⟨_, rfl⟩
     rw [<- hx] at qI qJ uQ hsv rA
     obtain ⟨asx, csx, uR, _⟩ := id hsv
     subst uR
     obtain ⟨st, pD⟩ : ∃ st, st = pkS j := ⟨_, rfl⟩
     have qI := fun he bs pU ts pF => qI he st pD bs pU ts pF
     have qJ := fun he bs pU ts pF => qJ he st pD bs pU ts pF
     rw [<- pD] at yZ hL ⊢
     obtain ⟨bs, pU⟩ : ∃ bs, bs = st.buns ++ bOf x := ⟨_, rfl⟩
     have qI := fun he ts pF => qI he bs pU ts pF
     have qJ := fun he ts pF => qJ he bs pU ts pF
     obtain ⟨ts, pF⟩ : ∃ ts, ts = st.tras ++ (Z0O st.buns.length bs.length kb).map (Z4Y x) := ⟨_, rfl⟩
     have qI := fun he => qI he ts pF
     have qJ := fun he => qJ he ts pF
     have zA : bs.length <= ps.length /\ ts.length <= ps.length := by
      by_cases he : Z39 Gs j
      ·rw [qI he] at qY; exact ⟨qY.1, qY.2.1⟩
      ·rw [qJ he] at qY; exact ⟨qY.1, qY.2.1⟩
     have zB := Z0 qY
     have HY := Z0 qI
     have HN := Z0 qJ
     have HE := Z0 wU
     have HX := Z0 hx
     have wV := Z0 pD
     have uS := Z0 pU
     have tI := Z0 pF
     have wW : Below w.1.size w wo := qX.out.trans (hB.mono qX.out.size)
     obtain ⟨Wq, N, qK, hN, b1, b2, zC, c0, c1, c2, c3⟩ := Zfz wo wg w x (.slice asx x.items.length csx) (.slice asx x.items.length csx) gg (og + j * 4) wW hB tH rA 107
     have pQ : Below wo.1.size wo Wq := by rw [<- qK]; exact (Z9 _ _).alloc (Z1 _) _
     have pJ : Below w3.1.size w3 Wq := pV.out.trans (b2.mono pV.out.size)
     obtain ⟨g0, g1, g2, g3⟩ := rA.below hB tH
     have jB : N < Wq.1.size := by rw [<- qK, <- hN, Z6]; omega
     have uT := Z0 qK
     have zD := Z0 hN
     have uU := hL.below pQ
     have wX : Wq.1[N]? = some (.cells #[.int .i64 x.lvl, .string x.name, .int .i64 x.up, .slice asx x.items.length csx] 107 (0, 0)) := by rw [<- qK, <- hN]; exact Z02 wo _
     have wY : PkW wg Wq N x (.slice asx x.items.length csx) st.buns st.tras st.cons vb vt vc := ⟨b2, uU, wX⟩
     have uV := Z0 wY
     have wZ := Z0 pQ
     have pW := Z0 b2
     have zE := Z0 (uQ _ Wq b1 (hsv.below b2))
     have jC := Z0 b1
     have jD := Z0 pJ
     have jE := Z0 hsv
     have zF : Hid (wg.1.size < Wq.1.size) := uU.lt
     obtain ⟨⟨f0, f1, f2, f3⟩, e0, e1, e2, e3⟩ := pH.out Wq pJ
     clear qY qI qJ wU pD pU pF wW qK hN pJ zC rA qZ hL uU pQ uQ hsv b1 b2 hx wX wY
     go_upto_region 18 with fail
     rw [uT.out, zD.out]
     obtain ⟨ab, cb, rW⟩ := uV.out.l.b.form
     subst rW
     obtain ⟨z0, z1, z2⟩ := cells3 uV.out.l.cell
     go_wp2_with (first
      | (go_at_call 31; refine zE.out.mono ?_; rintro e w7 ⟨v7, rfl, qP, zG⟩; obtain ⟨L7, uW, uX, xA⟩ := zG; have tJ := Z0 (uV.out.below qP); obtain ⟨z0, z1, z2⟩ := cells3 tJ.out.l.cell; obtain ⟨L, hL, hLr, hLo⟩ := tJ.out.l.b; obtain ⟨zH, zI⟩ := Zh1 hL uW uS.out)
      | (at_builtin; refine Z4h _ rfl _ _ 48 rfl wg.1.size 67 j0 (.agg #[.int .i64 0, .string ⟨#[]⟩, .slice none 0 0, .int .i64 0]) 4 56 Tryz.underlying48 tA.out.1 tA.out.2.1 tA.out.2.2.1 tA.out.2.2.2 rfl (by decide) _ L.length _ rfl hLo _ _ L7.length _ rfl xA (Zii uX) (by unfold maxLen; omega) (by omega) (Kc0 tJ.out.l.lt) ?_; intro v8 w8 pX pI; have pN := OwnsX.app (ids := fun b : Bun => b.ids) (by decide) hLr (fun p hp => (uX p hp).mono (Kc0 zF.out)) hLo pI pX; (rw [hL, uW, <- uS.out] at pN); obtain ⟨a8, c8, sJ⟩ := pN.form; subst sJ; obtain ⟨qL, uY, uZ⟩ := tJ.out.addB pI pN; have rQ := Z0 qL; obtain ⟨u0, u1, u2⟩ := cells3 qL.l.cell; obtain ⟨_, t0, t1, t2, t3⟩ := pH.out _ (pV.out.trans (qL.b.mono pV.out.size)); clear z0 z1 z2 hLr uX xA hL uW zH zI pN qL pX e0 e1 e2 e3)
      | (go_at_call 32; refine (Z7M st.buns.length bs.length kb _ (by omega) (by rw [uS.out, ZC]; omega) (by omega) (by omega)).mono ?_; rintro e w10 ⟨v10, rfl, xB, vA⟩; obtain ⟨a10, c10, zJ, _⟩ := vA.lies; subst zJ; have zK := Z0 (rQ.out.below xB); have xC := Z0 (vA.mono rQ.out.b.size); clear vA xB))
     obtain ⟨R, hR⟩ : ∃ R, R = Z0O st.buns.length bs.length kb := ⟨_, rfl⟩
     rw [<- hR] at tI xC ⊢
     have pF := tI.out
     have zL : st.tras.length + R.length = ts.length := by rw [pF, ZC, Z7]
     clear hR pF u0 u1 u2 t0 t1 t2 t3 uY uZ pI f0 f1 f2 f3 c0 c1 c2 c3
     go_loopw [86] (fun i wx => ∃ (q : Nat) (vt' : Value), q <= R.length /\ i = .int .i64 q /\ PkW wg wx N x (.slice asx x.items.length csx) bs (st.tras ++ (R.take q).map (Z4Y x)) st.cons (.slice a8 bs.length c8) vt' vc /\ OwnsLL wx wg.1.size (.slice a10 R.length c10) R) (fun i _ => R.length - (intOf i).toNat)
     case atStart => exact ⟨0, vt, ZE _, rfl, by rw [Kb5, Kbe, Ka1]; exact zK.out, xC.out⟩
     case round =>
      obtain ⟨wi, sC⟩ : ∃ x, x = wr := ⟨_, rfl⟩
      subst sC
      obtain ⟨q, vt', hq, rfl, hP, qB⟩ := hrel
      have HP := Z0 hP
      have vB := Z0 qB
      by_cases rE : q < R.length
      ·obtain ⟨g10, rfl, jF, qW⟩ := qB.at (by omega)
       obtain ⟨sl, hs, qM⟩ := qW q rE
       have pE : R.take (q + 1) = R.take q ++ [R[q]] := Z8 rE
       obtain ⟨l, hl⟩ : ∃ l, l = R[q] := ⟨_, rfl⟩
       rw [<- hl] at qM pE
       obtain ⟨al, cl, vC, _⟩ := id qM
       subst vC
       have sV := Z0 pE
       have jG := Z0 qM
       have rF : st.tras ++ (R.take (q + 1)).map (Z4Y x) = (st.tras ++ (R.take q).map (Z4Y x)) ++ [Z4Y x l] := by rw [pE, ZD, Kbc]; rfl
       have sK : (st.tras ++ (R.take q).map (Z4Y x)).length = st.tras.length + q := by rw [ZC, Z7, Kax]; omega
       obtain ⟨tq', rG⟩ : ∃ l, l = st.tras ++ (R.take (q + 1)).map (Z4Y x) := ⟨_, rfl⟩
       obtain ⟨tq, rH⟩ : ∃ l, l = st.tras ++ (R.take q).map (Z4Y x) := ⟨_, rfl⟩
       rw [<- rG, <- rH] at rF
       rw [<- rH] at sK hP
       have vD := Z0 rF
       have vE := Z0 rG
       obtain ⟨at', ct', qN⟩ := hP.l.t.form
       subst qN
       obtain ⟨z0, z1, z2⟩ := cells3 hP.l.cell
       obtain ⟨c0, c1, c2, c3⟩ := Z0r hP.n
       have qQ := hP.below ((Z9 wi.1.size wi).alloc (Z1 _) (.cells #[.int .i64 x.lvl, .string x.name, .slice al l.length cl] 112))
       obtain ⟨L, hL, hLr, hLo⟩ := qQ.l.t
       have zM : L.length = st.tras.length + q := by
        have := Kah List.length hL
        rw [Z7] at this
        omega
       have sL := qM.below ((Z9 wi.1.size wi).alloc (Z1 _) (.cells #[.int .i64 x.lvl, .string x.name, .slice al l.length cl] 112))
       have vF := Z0 sL
       have sM := Z0 qQ
       have sN := Z0 hLo
       have vG := Z0 hLr
       have HL := Z0 hL
       have sO := qQ.b.size
       have vH := Z0 sO
       have vI : Hid (OwnsLL (wi.alloc (.cells #[.int .i64 x.lvl, .string x.name, .slice al l.length cl] 112)) wg.1.size (.slice (some ⟨g10, 0, none⟩) R.length c10) R) := qB.below ((Z9 wi.1.size wi).alloc (Z1 _) _)
       clear hl qW hP qB qM pE qQ sL hLo hLr hL sO rF rG rH sK
       go_wp2_with (at_builtin; refine wpList_append_own _ rfl _ _ 49 rfl wg.1.size 112 j1 (.agg #[.int .i64 0, .string ⟨#[]⟩, .slice none 0 0]) 3 48 Tryz.underlying49 tB.out.1 tB.out.2.1 tB.out.2.2.1 tB.out.2.2.2 rfl (by decide) _ L.length _ rfl sN.out ⟨wi.1.size, 0, none⟩ 1 1 [.int .i64 x.lvl, .string x.name, .slice al l.length cl] rfl rfl (Z0f _ _ _) (by simp [Value.oneCell']) (by unfold maxLen; omega) (by omega) vH.out ?_; intro v8 w8 pX pI _; have pN := OwnsX.add (ids := fun t : Tra => t.bs) (x := Z4Y x l) HL.out (by decide) vG.out vF.out sN.out pI pX; (rw [<- vD.out] at pN); obtain ⟨a9, c9, sJ⟩ := pN.form; subst sJ; obtain ⟨qL, uY, uZ⟩ := sM.out.addT pI pN; have rQ := Z0 qL; have vJ := Z0 (sM.out.rowsT pI vI.out (.slice a9 tq'.length c9)); clear pN qL pX)
       go_roundw
       case rel =>
        refine ⟨q + 1, .slice a9 tq'.length c9, by omega, by go_num, ?_, vJ.out⟩
        rw [<- vE.out]
        exact rQ.out
       case measure => simp [intOf]; omega
      ·have vK : q = R.length := by omega
       subst vK
       rw [Kat, <- tI.out] at hP HP
       obtain ⟨c0, c1, c2, c3⟩ := Z0r hP.n
       have qH : Below wg.1.size wg wi := hP.b
       clear qB vB hP rE hq zL
       obtain ⟨av1, cv1, qN⟩ := HP.out.l.t.form
       subst qN
       go_upto_region 26 with fail
       go_cut [117] from 102 to 117 (fun b wx => ∃ c : Bool, b = .bool c /\ (c = true ↔ ¬ Z39 Gs j) /\ Below wi.1.size wi wx)
       case first =>
        by_cases h1 : j + 1 < Gs.length
        ·obtain ⟨gg2, og2, vL, zN, qZ⟩ := RdGrps.lies tG.out (by omega)
         injection vL with vL
         injection vL with zO zP _
         subst zO zP
         obtain ⟨sv2, _, i0, _, _, _⟩ := qZ (j + 1) h1
         replace i0 := (qH.cell (p := ⟨gg, og + (j + 1) * 4, none⟩) zN).trans i0
         have vM : Z39 Gs j ↔ ¬ (Gs[j + 1].lvl = x.lvl) := by
          rw [HE.out]
          constructor
          ·intro h e; exact h ⟨h1, by rw [e, HX.out]⟩
          ·rintro h ⟨h2, h3⟩; exact h (by rw [h3, HX.out])
         obtain ⟨lv2, xD⟩ : ∃ z, z = Gs[j + 1].lvl := ⟨_, rfl⟩
         rw [<- xD] at i0 vM
         have xE := Z0 vM
         have zQ : decide ((j : Int) + 1 < (Gs.length : Int)) = true := Kac (by omega)
         have zR : decide (j + 1 < Gs.length) = true := Kac h1
         clear qZ xD vM
         by_cases h2 : lv2 = x.lvl
         ·have pQ : (lv2 == x.lvl) = true := by simp [h2]
          have h3 : ¬ Z39 Gs j := fun h => xE.out.1 h h2
          have H3 := Z0 h3
          clear h2 h3
          go_wp2_with fail
          go_quiet (fail)
          go_wp2_with fail
          go_meet
          exact ⟨true, rfl, by simp [H3.out], (by first | exact below_drewN (Z9 _ _) _ | exact (Z9 _ _).drew)⟩
         ·have pQ : (lv2 == x.lvl) = false := by simp [h2]
          have h3 : Z39 Gs j := xE.out.2 h2
          have H3 := Z0 h3
          clear h2 h3
          go_wp2_with fail
          go_quiet (fail)
          go_wp2_with fail
          go_meet
          exact ⟨false, rfl, by simp [H3.out], (by first | exact below_drewN (Z9 _ _) _ | exact (Z9 _ _).drew)⟩
        ·have h3 : Z39 Gs j := HE.out.2 (fun ⟨h2, _⟩ => h1 h2)
         have H3 := Z0 h3
         have zQ : decide ((j : Int) + 1 < (Gs.length : Int)) = false := Kad (by omega)
         have zR : decide (j + 1 < Gs.length) = false := Kad h1
         clear h3 h1
         go_wp2_with fail
         go_quiet (fail)
         go_wp2_with fail
         go_meet
         exact ⟨false, rfl, by simp [H3.out], (by first | exact below_drewN (Z9 _ _) _ | exact (Z9 _ _).drew)⟩
       case rest =>
        obtain ⟨wk, zS⟩ : ∃ x, x = wc := ⟨_, rfl⟩
        subst zS
        obtain ⟨c, rfl, hc, hb⟩ := hcut
        have rR := Z0 (HP.out.below hb)
        clear c0 c1 c2 c3 qH hb
        cases c
        ·have he : Z39 Gs j := Kb6 (fun h => Bool.noConfusion (hc.2 h))
         have hy := HY.out he
         have zT : st.beg <= ts.length := by
          have h1 := tI.out
          have h2 := Kah List.length h1
          rw [ZC] at h2
          omega
         have pT : (st.cons ++ (Z0O st.beg ts.length kt).map (Z7E x)).length <= ps.length := by
          have h1 := zB.out.2.2.1
          rw [hy] at h1
          exact h1
         have vN := Z0 hy
         have jH := zA.2
         obtain ⟨z0, z1, z2⟩ := cells3 rR.out.l.cell
         obtain ⟨_, t0, t1, t2, t3⟩ := pH.out wk (pV.out.trans (rR.out.b.mono pV.out.size))
         clear hy hc he
         go_wp2_with (go_at_call 32; refine (Z7M st.beg ts.length kt _ (by omega) zT (by omega) (by omega)).mono ?_; rintro e w11 ⟨v11, rfl, xF, vO⟩; obtain ⟨a11, c11, zU, _⟩ := vO.lies; subst zU; have zV := Z0 (rR.out.below xF); have xG := Z0 (vO.mono rR.out.b.size); clear vO xF)
         obtain ⟨R2, xH⟩ : ∃ R, R = Z0O st.beg ts.length kt := ⟨_, rfl⟩
         rw [<- xH] at vN xG pT ⊢
         rw [ZC, Z7] at pT
         clear xH z0 z1 z2 t0 t1 t2 t3
         go_loopw [126] (fun i wx => ∃ (q : Nat) (vc' : Value), q <= R2.length /\ i = .int .i64 q /\ PkW wg wx N x (.slice asx x.items.length csx) bs ts (st.cons ++ (R2.take q).map (Z7E x)) (.slice a8 bs.length c8) (.slice av1 ts.length cv1) vc' /\ OwnsLL wx wg.1.size (.slice a11 R2.length c11) R2) (fun i _ => R2.length - (intOf i).toNat)
         case atStart => exact ⟨0, vc, ZE _, rfl, by rw [Kb5, Kbe, Ka1]; exact zV.out, xG.out⟩
         case round =>
          obtain ⟨wi2, zW⟩ : ∃ x, x = wr := ⟨_, rfl⟩
          subst zW
          obtain ⟨q, vc', hq, rfl, hP, qB⟩ := hrel
          have tK := Z0 hP
          have vB := Z0 qB
          by_cases rE : q < R2.length
          ·obtain ⟨g11, rfl, jI, qW⟩ := qB.at (by omega)
           obtain ⟨sl, hs, qM⟩ := qW q rE
           have pE : R2.take (q + 1) = R2.take q ++ [R2[q]] := Z8 rE
           obtain ⟨l, hl⟩ : ∃ l, l = R2[q] := ⟨_, rfl⟩
           rw [<- hl] at qM pE
           obtain ⟨al, cl, vC, _⟩ := id qM
           subst vC
           have rF : st.cons ++ (R2.take (q + 1)).map (Z7E x) = (st.cons ++ (R2.take q).map (Z7E x)) ++ [Z7E x l] := by rw [pE, ZD, Kbc]; rfl
           have sK : (st.cons ++ (R2.take q).map (Z7E x)).length = st.cons.length + q := by rw [ZC, Z7, Kax]; omega
           obtain ⟨tq', rG⟩ : ∃ l, l = st.cons ++ (R2.take (q + 1)).map (Z7E x) := ⟨_, rfl⟩
           obtain ⟨tq, rH⟩ : ∃ l, l = st.cons ++ (R2.take q).map (Z7E x) := ⟨_, rfl⟩
           rw [<- rG, <- rH] at rF
           rw [<- rH] at sK hP
           have vD := Z0 rF
           have vE := Z0 rG
           obtain ⟨at', ct', qN⟩ := hP.l.c.form
           subst qN
           obtain ⟨z0, z1, z2⟩ := cells3 hP.l.cell
           obtain ⟨c0, c1, c2, c3⟩ := Z0r hP.n
           have qQ := hP.below ((Z9 wi2.1.size wi2).alloc (Z1 _) (.cells #[.int .i64 x.lvl, .slice al l.length cl] 114))
           obtain ⟨L, hL, hLr, hLo⟩ := qQ.l.c
           have zM : L.length = st.cons.length + q := by
            have := Kah List.length hL
            rw [Z7] at this
            omega
           have sL := qM.below ((Z9 wi2.1.size wi2).alloc (Z1 _) (.cells #[.int .i64 x.lvl, .slice al l.length cl] 114))
           have vF := Z0 sL
           have sM := Z0 qQ
           have sN := Z0 hLo
           have vG := Z0 hLr
           have HL := Z0 hL
           have sO := qQ.b.size
           have vH := Z0 sO
           have vI : Hid (OwnsLL (wi2.alloc (.cells #[.int .i64 x.lvl, .slice al l.length cl] 114)) wg.1.size (.slice (some ⟨g11, 0, none⟩) R2.length c11) R2) := qB.below ((Z9 wi2.1.size wi2).alloc (Z1 _) _)
           clear hl qW hP qB qM pE qQ sL hLo hLr hL sO rF rG rH sK
           go_wp2_with (at_builtin; refine wpList_append_own _ rfl _ _ 50 rfl wg.1.size 114 j2 (.agg #[.int .i64 0, .slice none 0 0]) 2 32 Tryz.underlying50 tC.out.1 tC.out.2.1 tC.out.2.2.1 tC.out.2.2.2 rfl (by decide) _ L.length _ rfl sN.out ⟨wi2.1.size, 0, none⟩ 1 1 [.int .i64 x.lvl, .slice al l.length cl] rfl rfl (Z0f _ _ _) (by simp [Value.oneCell']) (by unfold maxLen; omega) (by omega) vH.out ?_; intro v8 w8 pX pI _; have pN := OwnsX.add (ids := fun t : Con => t.ts) (x := Z7E x l) HL.out (by decide) vG.out vF.out sN.out pI pX; (rw [<- vD.out] at pN); obtain ⟨a9, c9, sJ⟩ := pN.form; subst sJ; obtain ⟨qL, uY, uZ⟩ := sM.out.addC pI pN; have rQ := Z0 qL; have vJ := Z0 (sM.out.rowsC pI vI.out (.slice a9 tq'.length c9)); clear pN qL pX)
           go_roundw
           case rel =>
            refine ⟨q + 1, .slice a9 tq'.length c9, by omega, by go_num, ?_, vJ.out⟩
            rw [<- vE.out]
            exact rQ.out
           case measure => simp [intOf]; omega
          ·have vK : q = R2.length := by omega
           subst vK
           rw [Kat] at tK
           obtain ⟨z0, z1, z2⟩ := cells3 tK.out.l.cell
           clear qB vB hP rE hq
           go_wp2_with fail
           go_roundw
           case rel =>
            refine ⟨j + 1, .slice a8 bs.length c8, .slice av1 ts.length cv1, vc', by omega, by go_num, by rw [vN.out], tK.out.b, ?_⟩
            rw [vN.out]
            exact tK.out.l
           case measure => simp [intOf]; omega
        ·have hn := HN.out (hc.1 rfl)
         have qE := Z0 hn
         clear hc hn
         go_wp2_with fail
         go_roundw
         case rel =>
          refine ⟨j + 1, .slice a8 bs.length c8, .slice av1 ts.length cv1, vc, by omega, by go_num, by rw [qE.out], rR.out.b, ?_⟩
          rw [qE.out]
          exact rR.out.l
         case measure => simp [intOf]; omega
    ·obtain rfl : j = Gs.length := by omega
     obtain ⟨ab, cb, rW⟩ := hL.b.form
     obtain ⟨at', ct, qN⟩ := hL.t.form
     obtain ⟨ac, cc, uC⟩ := hL.c.form
     have HL := Z0 hL
     have qR : Below w3.1.size w3 wo := pV.out.trans (hB.mono pV.out.size)
     have pY : Below w.1.size w wo := pA.out.trans (qR.mono pA.out.size)
     subst rW qN uC
     obtain ⟨z0, z1, z2⟩ := cells3 hL.cell
     have vP := yY.out wo qR
     obtain ⟨c0, c1, c2⟩ := cells3 vP
     have f0 := uO.out wo qR 0
     have f1 := uO.out wo qR 1
     have f2 := uO.out wo qR 2
     have tL := Z0 vP
     have pO := Z0 pY
     have vQ := qX.out.size
     clear hL vP qR pY
     go_wp2_with fail
     refine bodyPost_ret (Z21 rfl _ _ (w.1.size + 1 + 1) 52 _ (0, 0) _ (.int .i64 0) rfl rfl (ZaA tL.out) Tryz.underlying52 rfl (by kernel_rfl)) rfl ?_
     exact ⟨_, _, _, rfl, ((pO.out.setCell (p := ⟨w.1.size + 1 + 1, 0, none⟩) (Kbr _ 2) _).setCell (p := ⟨w.1.size + 1 + 1, 1, none⟩) (Kbr _ 2) _).setCell (p := ⟨w.1.size + 1 + 1, 2, none⟩) (Kbr _ 2) _,
      (Z8F HL.out.b (by decide) tL.out).mono vQ, (Z8F HL.out.t (by decide) tL.out).mono vQ, (Z8F HL.out.c (by decide) tL.out).mono vQ⟩
theorem IsB.true {v : Value} {P : Prop} (h : IsB v P) (hp : P) : v = .bool .true := by
 obtain ⟨r, rfl, hr⟩ := h
 rw [hr.2 hp]
theorem IsB.false {v : Value} {P : Prop} (h : IsB v P) (hp : ¬ P) : v = .bool .false := by
 obtain ⟨r, rfl, hr⟩ := h
 cases r
 ·rfl
 ·exact absurd (hr.1 rfl) hp
theorem Tryz.infoSt : (Tryz.prog.info? 9).map (fun i => (i.zero, i.size, i.bytes)) = some (some (.string ⟨#[]⟩), 1, 16) := by kernel_rfl
def StrsAt (w : World) (g : Nat) (xs : List ByteArray) : Prop := w.1[g]? = some (.cells (xs.map Value.string).toArray 9 (0, 0))
theorem StrsAt.lt {w : World} {g : Nat} {xs : List ByteArray} (h : StrsAt w g xs) : g < w.1.size := (Z5.1 h).1
theorem StrsAt.below {w w' : World} {g B : Nat} {xs : List ByteArray} (h : StrsAt w g xs) (hb : Below B w w') (hg : g < B) : StrsAt w' g xs := (hb.block g hg).trans h
theorem StrsAt.free {w : World} {g : Nat} {xs : List ByteArray} (h : StrsAt w g xs) (i : Nat) : w.frozen? ⟨g, i, none⟩ = .false := by
 unfold StrsAt at h
 simp [World.frozen?, h]
theorem StrsAt.cell {w : World} {g : Nat} {xs : List ByteArray} (h : StrsAt w g xs) {i : Nat} (hi : i < xs.length) : w.cell? ⟨g, i, none⟩ = some (.string xs[i]) := by
 unfold StrsAt at h
 simp [World.cell?, h, hi]
theorem StrsAt.set {w : World} {g : Nat} {xs : List ByteArray} (h : StrsAt w g xs) (i : Nat) (x : ByteArray) : StrsAt (w.setCell ⟨g, i, none⟩ (.string x)) g (xs.set i x) := by
 have hl := h.lt
 unfold StrsAt at *
 simp only [World.setCell, Kap, if_pos, h, Option.map_some, List.map_set]
 simp
theorem StrsAt.rd {w : World} {g : Nat} {xs : List ByteArray} (h : StrsAt w g xs) (cap : Nat) : ReadsT w (.slice (some ⟨g, 0, none⟩) xs.length cap) xs :=
 ⟨_, cap, rfl, fun _ => ⟨g, 0, rfl, h.lt, fun i hi => by rw [Ka0]; exact h.cell hi⟩⟩
theorem ZeM (w : World) (n : Nat) : StrsAt (w.alloc (.cells (madeCells #[Value.string ⟨#[]⟩] n) 9)) w.1.size (List.replicate n noB) := by
 have e : madeCells #[Value.string ⟨#[]⟩] n = ((List.replicate n noB).map Value.string).toArray := by
  apply Array.toList_inj.1
  rw [toList_madeCells_one]
  simp [noB]
 unfold StrsAt
 rw [e]
 exact Z02 w _
theorem ZgW (ls : List Lev) (v vp vz vl : Value) (m : Mai) (zs : List Int) (k : Pck) (w : World) (hr : RdLevs w v ls) (hf : ∀ l ∈ ls, Z0x l) (hl : ls.length <= 100000) (pR : RdPces w vp m.ps) (h8 : 0 <= m.cls /\ m.cls <= 255 /\ 0 <= m.ctr /\ m.ctr <= 255)
 (zX : m.origin.size <= maxLen) (zY : m.ps.length <= 100000) (sP : ∀ p ∈ m.ps, p.code.size <= maxLen) (hz : RdInts w vz zs) (zZ : zs.length <= 1000000) (iA : ∃ b t c, vl = Zc8 b t c) (vR : Z4V ls m zs k ≠ 0) :
 Calls Tryz.prog 37 #[v, Z0N m vp, vz, Z1R k, vl] w fun e w' => e = .returned (.tuple #[.bool false, .int .i64 (Z4V ls m zs k)]) /\ Below w.1.size w w' := by
 have pZ := Z0 (fun W (hW : Below w.1.size w W) => Z2o ls v vp vz m zs k W (hr.below hW) hf hl (pR.below hW) h8 zX zY sP (hz.below hW) zZ)
 obtain ⟨A, xI⟩ : ∃ A, A = Z4V ls m zs k := ⟨_, rfl⟩
 rw [<- xI] at pZ vR ⊢
 obtain ⟨lb, lt, lc, rfl⟩ := iA
 unfold Z0N Z1R Zc8 at *
 obtain ⟨kp, kg, kb, kt⟩ := k
 obtain ⟨cls, ctr, org, ps⟩ := m
 dsimp only at *
 obtain ⟨w3, pL⟩ : ∃ w3, w3 = ((w.alloc (.cells #[.int .u8 cls, .int .u8 ctr, .string org, vp] 34)).alloc (.cells #[.int .i64 kp, .int .i64 kg, .int .i64 kb, .int .i64 kt] 37)).alloc (.cells #[lb, lt, lc] 52) := ⟨_, rfl⟩
 obtain ⟨g1, g2, g3⟩ := Z5L pL
 have pJ : Below w.1.size w w3 := by
  rw [pL]
  exact (((Z9 _ w).alloc (Z1 _) _).alloc (by simp) _).alloc (by simp; omega) _
 obtain ⟨x0, x1, x2, x3⟩ := Z0r g1
 obtain ⟨y0, y1, y2, y3⟩ := Z0r g2
 have sH := Z0 pL
 have pA := Z0 pJ
 have hq : (A != 0) = true := by simp [vR]
 clear pL pJ g1 g2 g3 xI hr hf sP hz pR vR
 go_enter Tryz.func37, Tryz.ntmps37
 go_upto_region 1 with fail
 rw [<- sH.out]
 go_wp2_with (go_at_call 29; refine (pZ.out _ pA.out).mono ?_; rintro e w4 ⟨rfl, qA⟩)
 go_ret2
 exact ⟨rfl, Z01 pA.out pA.out.size qA⟩
theorem Zcn {ls : List Lev} {m : Mai} (h : HasPlan ls m) (v vp vz vb vt vc : Value) (zs : List Int) (k : Pck) (l : Lod) (w : World) (hr : RdLevs w v ls) (pR : RdPces w vp m.ps) (hz : RdInts w vz zs) (pM : zs.length = m.ps.length) (hn : Z1K ls.length zs = true) (hA : Z4V ls m zs k = 0)
 (tM : RdLod w vb vt vc l) (hs : SmallL l) (hid : ∀ b ∈ l.buns, ∀ i ∈ b.ids, 0 <= i /\ i <= 999999) :
 Calls Tryz.prog 37 #[v, Z0N m vp, vz, Z1R k, Zc8 vb vt vc] w fun e w' => ∃ u, e = .returned (.tuple #[u, .int .i64 0]) /\ Below w.1.size w w' /\
  IsB u (LodOk k m.ps zs (Z65 zs (Z0T ls (Z06 m.ps) ls.length) m.ps.length (Z0T ls (Z06 m.ps) ls.length).length) l) := by
 have rK := h.few
 have yV := Z0y h.right
 have uL := h.groups_few
 obtain ⟨qV, sE⟩ := Z8L h.mail
 have pT : (Z06 m.ps).length = m.ps.length := Z1A _
 have hG : GrpsIn m.ps (Z0T ls (Z06 m.ps) ls.length) := Zbg pT
 have pZ := Z0 (fun W (hW : Below w.1.size w W) => Z2o ls v vp vz m zs k W (hr.below hW) (Z1t h.right) (by omega) (pR.below hW) h.rng h.org (by omega) (fun p hp => by have := Z0i ((Z1w h.mail).2 p hp); unfold maxLen; omega) (hz.below hW) (by omega))
 rw [hA] at pZ
 have sF := Z0 (fun W (hW : Below w.1.size w W) => Z73 h (hr.below hW) (pR.below hW))
 have rC : ∀ x ∈ Z0T ls (Z06 m.ps) ls.length, x.items.length <= 2000 /\ ∀ i ∈ x.items, 0 <= i /\ i.toNat < m.ps.length := fun x hx => by
  refine ⟨?_, (hG.items x hx).2⟩
  obtain ⟨mm, n, _, _, rfl⟩ := Z27.1 hx
  have := Z6T ls (Z06 m.ps) mm n
  show (itm ls (Z06 m.ps) mm n).length <= 2000
  omega
 obtain ⟨Gs, rD⟩ : ∃ Gs, Gs = Z0T ls (Z06 m.ps) ls.length := ⟨_, rfl⟩
 rw [<- rD] at uL sF rC ⊢
 have rB := Z8J zs Gs m.ps.length Gs.length (Z1 _)
 have rS := Z0 (fun W vn (hW : Below w.1.size w W) (hn : ReadsT W vn (Z65 zs Gs m.ps.length Gs.length)) => Z5U k l m zs (Z65 zs Gs m.ps.length Gs.length) vp vz vn vb vt vc W (pR.below hW) (hz.below hW) hn (tM.below hW) hs sE rK pM rB (fun p hp => by have := qV p hp; omega) hid)
 have tN := Z0 (fun W (hW : Below w.1.size w W) => Z7u k l vb vt vc W (tM.below hW) hs)
 have vS := Z0 (fun W (hW : Below w.1.size w W) => Z4c k l vb vt vc W (tM.below hW) hs)
 have xJ := Z0 (fun q (hq : q < Gs.length) => Z9E zs Gs m.ps.length hq)
 have sB := Z0 (fun q (hq : q <= Gs.length) => Z8J zs Gs m.ps.length q hq)
 have xK : Hid (Z65 zs Gs m.ps.length 0 = List.replicate m.ps.length noB) := Z0 rfl
 have qO : BunsOk k m.ps zs (Z65 zs Gs m.ps.length Gs.length) l.buns -> TrasOk k l -> ConsOk k l -> LodOk k m.ps zs (Z65 zs Gs m.ps.length Gs.length) l := fun a b c => ⟨a, b, c⟩
 have tO : LodOk k m.ps zs (Z65 zs Gs m.ps.length Gs.length) l -> BunsOk k m.ps zs (Z65 zs Gs m.ps.length Gs.length) l.buns := fun a => a.buns
 have tP : LodOk k m.ps zs (Z65 zs Gs m.ps.length Gs.length) l -> TrasOk k l := fun a => a.tras
 have tQ : LodOk k m.ps zs (Z65 zs Gs m.ps.length Gs.length) l -> ConsOk k l := fun a => a.cons
 obtain ⟨PB, xL⟩ : ∃ P, P = BunsOk k m.ps zs (Z65 zs Gs m.ps.length Gs.length) l.buns := ⟨_, rfl⟩
 obtain ⟨PT, xM⟩ : ∃ P, P = TrasOk k l := ⟨_, rfl⟩
 obtain ⟨PC, xN⟩ : ∃ P, P = ConsOk k l := ⟨_, rfl⟩
 obtain ⟨PL, xO⟩ : ∃ P, P = LodOk k m.ps zs (Z65 zs Gs m.ps.length Gs.length) l := ⟨_, rfl⟩
 rw [<- xL] at rS qO tO
 rw [<- xM] at tN qO tP
 rw [<- xN] at vS qO tQ
 rw [<- xO] at qO tO tP tQ ⊢
 have HZ := Z0 hz
 obtain ⟨az, cz, rfl, xP⟩ := hz
 obtain ⟨av, cv, rfl, _⟩ := pR
 have iB := Z0 xP
 have iC := Z0 rC
 have iD := Z0 pM
 have rL := Z0 (And.intro qO (And.intro tO (And.intro tP tQ)))
 obtain ⟨nmF, xQ⟩ : ∃ f : Nat -> List ByteArray, f = Z65 zs Gs m.ps.length := ⟨_, rfl⟩
 rw [<- xQ] at rS xJ sB xK
 clear pT hG qV sE hr tM hs hid hn hA h xP qO tO tP tQ xL xM xN xO xQ rC rD rB pM
 unfold Z0N Z1R Zc8 at *
 obtain ⟨kp, kg, kb, kt⟩ := k
 obtain ⟨cls, ctr, org, ps⟩ := m
 dsimp only at *
 obtain ⟨w3, pL⟩ : ∃ w3, w3 = ((w.alloc (.cells #[.int .u8 cls, .int .u8 ctr, .string org, .slice av ps.length cv] 34)).alloc (.cells #[.int .i64 kp, .int .i64 kg, .int .i64 kb, .int .i64 kt] 37)).alloc (.cells #[vb, vt, vc] 52) := ⟨_, rfl⟩
 obtain ⟨g1, g2, g3⟩ := Z5L pL
 have tF : w3.1.size = w.1.size + 1 + 1 + 1 := by rw [pL, Z6, Z6, Z6]
 have pJ : Below w.1.size w w3 := by
  rw [pL]
  exact (((Z9 _ w).alloc (Z1 _) _).alloc (by simp) _).alloc (by simp; omega) _
 have pH := Z0 (fun (W : World) (hB : Below w3.1.size w3 W) => And.intro (Z0r ((hB.block _ (by omega)).trans g1)) (And.intro (Z0r ((hB.block _ (by omega)).trans g2)) (cells3 ((hB.block _ (by omega)).trans g3))))
 have sH := Z0 pL
 have pA := Z0 pJ
 clear pL pJ tF g1 g2 g3
 obtain ⟨⟨x0, x1, x2, x3⟩, ⟨y0, y1, y2, y3⟩, _⟩ := pH.out w3 (Z9 _ _)
 go_enter Tryz.func37, Tryz.ntmps37
 go_upto_region 1 with fail
 rw [<- sH.out]
 go_upto_region 7 with (first
  | (go_at_call 29; refine (pZ.out _ pA.out).mono ?_; rintro e w4 ⟨rfl, qA⟩; obtain ⟨⟨p0, p1, p2, p3⟩, ⟨q0, q1, q2, q3⟩, _⟩ := pH.out w4 qA; have tR := pA.out.trans (qA.mono pA.out.size))
  | (go_at_call 30; refine (sF.out _ tR).mono ?_; rintro e wg ⟨ag, cg, rfl, qH, sI⟩; have pV := Z0 (qA.trans (qH.mono qA.size)); have qX := Z0 (tR.trans (qH.mono tR.size)); have tG := Z0 sI; clear qH sI))
 clear p0 p1 p2 p3 q0 q1 q2 q3 qA tR x0 x1 x2 x3 y0 y1 y2 y3
 obtain ⟨⟨x0, x1, x2, x3⟩, _, _⟩ := pH.out wg pV.out
 have iE := fun W => run_make_row' (P := Tryz.prog) 84 9 (.string ⟨#[]⟩) 16 Tryz.underlying84 Tryz.infoSt rfl .i64 .i64 ps.length (by omega) (by omega) W
 obtain ⟨w5, tS⟩ : ∃ w5, w5 = wg.alloc (.cells (madeCells #[Value.string ⟨#[]⟩] ps.length) 9) := ⟨_, rfl⟩
 have pD : StrsAt w5 wg.1.size (nmF 0) := by rw [tS, xK.out]; exact ZeM wg ps.length
 have xR : Below wg.1.size wg w5 := by rw [tS]; exact (Z9 _ _).alloc (Z1 _) _
 have wV := Z0 pD
 have iF := Z0 xR
 have iG := Z0 tS
 clear pD xR tS
 go_upto_region 8 with fail
 rw [<- iG.out]
 clear iE x0 x1 x2 x3
 go_wp2_with fail
 go_loopw [43] (fun i wx => ∃ j : Nat, j <= Gs.length /\ i = .int .i64 j /\ Below wg.1.size wg wx /\ StrsAt wx wg.1.size (nmF j)) (fun i _ => Gs.length - (intOf i).toNat)
 case atStart => exact ⟨0, ZE _, rfl, iF.out, wV.out⟩
 case round =>
  obtain ⟨wo, pY⟩ : ∃ x, x = wr := ⟨_, rfl⟩
  subst pY
  obtain ⟨j, hj, rfl, hB, hS⟩ := hrel
  have HB := Z0 hB
  have HS := Z0 hS
  by_cases pB : j < Gs.length
  ·obtain ⟨gg, og, rfl, tH, qZ⟩ := RdGrps.lies tG.out (by omega)
   obtain ⟨sv, hsv, rA⟩ := qZ j pB
   have rT := xJ.out j pB
   have rB := sB.out j hj
   obtain ⟨iH, hit⟩ := iC.out _ (Z4 pB)
   obtain ⟨x, hx⟩ : ∃ x, x = Gs[j] := ⟨_, rfl⟩
   rw [<- hx] at hsv rA rT iH hit
   have iI := hsv.below hB
   obtain ⟨asx, csx, uR, xS⟩ := id hsv
   subst uR
   obtain ⟨g0, g1, g2, g3⟩ := rA.below hB tH
   obtain ⟨Wq, qK⟩ : ∃ W, W = wo.alloc (.cells #[.int .i64 x.lvl, .string x.name, .int .i64 x.up, .slice asx x.items.length csx] 107) := ⟨_, rfl⟩
   have pQ : Below wo.1.size wo Wq := by rw [qK]; exact (Z9 _ _).alloc (Z1 _) _
   have vT : Wq.1[wo.1.size]? = some (.cells #[.int .i64 x.lvl, .string x.name, .int .i64 x.up, .slice asx x.items.length csx] 107 (0, 0)) := by rw [qK]; exact Z02 wo _
   have uT := Z0 qK
   have iJ := Z0 vT
   have wZ := Z0 (hB.trans (pQ.mono hB.size))
   have iK := Z0 (hS.below pQ hS.lt)
   have iL : Hid (wo.1.size ≠ wg.1.size) := Z0 (fun e => by have := hS.lt; omega)
   have iM := Z0 xS
   have iN := Z0 hit
   have iO := Z0 rT
   have iP := Z0 rB
   obtain ⟨n0, n1, n2, n3⟩ := Z0r vT
   clear hx qZ rA iI qK pQ vT rT rB hit xS hS hB hsv
   go_upto_region 11 with fail
   rw [<- uT.out]
   go_wp2_with fail
   go_loopw [50] (fun i wx => ∃ p : Nat, p <= x.items.length /\ i = .int .i64 p /\ Below wg.1.size wg wx /\ wx.1[wo.1.size]? = some (.cells #[.int .i64 x.lvl, .string x.name, .int .i64 x.up, .slice asx x.items.length csx] 107 (0, 0)) /\ StrsAt wx wg.1.size (nmI zs x (nmF j) (x.items.take p))) (fun i _ => x.items.length - (intOf i).toNat)
   case atStart => exact ⟨0, ZE _, rfl, wZ.out, iJ.out, iK.out⟩
   case round =>
    clear n0 n1 n2 n3 g0 g1 g2 g3
    obtain ⟨wi, sC⟩ : ∃ x, x = wr := ⟨_, rfl⟩
    subst sC
    obtain ⟨p, hp, rfl, sQ, tT, rU⟩ := hrel
    have sR := Z0 sQ
    have tU := Z0 tT
    by_cases qU : p < x.items.length
    ·obtain ⟨gs, os, rfl, uI, sD⟩ := iM.out (by omega)
     have e1 := (sQ.cell (p := ⟨gs, os + p, none⟩) uI).trans (sD p qU)
     obtain ⟨i0, i1⟩ := iN.out _ (Z4 qU)
     have pE : x.items.take (p + 1) = x.items.take p ++ [x.items[p]] := Z8 qU
     have qS := Zgv zs x (nmF j) (x.items.take p) x.items[p]
     rw [<- pE] at qS
     obtain ⟨it, xT⟩ : ∃ it, it = x.items[p] := ⟨_, rfl⟩
     rw [<- xT] at e1 i0 i1 qS
     obtain ⟨q, rfl⟩ : ∃ q : Nat, it = (q : Int) := ⟨it.toNat, (Ka3 i0).symm⟩
     rw [Kar] at i1
     unfold Z5E at qS
     rw [Kar] at qS
     have xU : q < zs.length := by rw [iD.out]; exact i1
     obtain ⟨gz, oz, rfl, iQ, sP⟩ := iB.out (by omega)
     have e2 := ((qX.out.trans (sQ.mono qX.out.size)).cell (p := ⟨gz, oz + q, none⟩) iQ).trans (sP q xU)
     have xV : zs.getD q (-1) = zs[q] := by rw [Z2, Z3 xU]; rfl
     rw [xV] at qS
     obtain ⟨z, xW⟩ : ∃ z, z = zs[q] := ⟨_, rfl⟩
     rw [<- xW] at qS e2
     have vU : q < (nmI zs x (nmF j) (x.items.take p)).length := by rw [ZaU, iP.out]; exact i1
     obtain ⟨ns, rT⟩ : ∃ ns, ns = nmI zs x (nmF j) (x.items.take p) := ⟨_, rfl⟩
     rw [<- rT] at qS rU vU
     have xX := Z0 qS
     have rV := Z0 rU
     have iR := Z0 vU
     obtain ⟨n0, n1, n2, n3⟩ := Z0r tT
     clear sD pE qS xT sP xV xW rT vU tT sQ rU
     by_cases pM : z = x.lvl
     ·have pQ : (z == x.lvl) = .true := by simp [pM]
      have pD := xX.out
      rw [if_pos pM] at pD
      have vV := Z0 pD
      clear pD pM
      go_wp2_with fail
      go_quiet (fail)
      obtain ⟨wd, rI⟩ : ∃ wd, wd = wi.drewN nq := ⟨_, rfl⟩
      rw [<- rI]
      have qT : Below wi.1.size wi wd := by rw [rI]; exact below_drewN (Z9 _ _) _
      have tV := rV.out.below qT rV.out.lt
      have vW := (qT.block _ (Z5.1 tU.out).1).trans tU.out
      have c1 := tV.cell iR.out
      have c2 := tV.free q
      obtain ⟨n0, n1, n2, n3⟩ := Z0r vW
      have vX := Z0 tV
      have vY := Z0 vW
      have vZ := Z0 (sR.out.trans (qT.mono sR.out.size))
      clear rI qT tV vW e1 e2
      go_wp2_with fail
      go_roundw
      case rel =>
       refine ⟨p + 1, by omega, by go_num, vZ.out.setCell (p := ⟨wg.1.size, q, none⟩) (Z1 _) _, (Z4m iL.out).trans vY.out, ?_⟩
       rw [vV.out]
       exact vX.out.set q _
      case measure => simp [intOf]; omega
     ·have pQ : (z == x.lvl) = .false := by simp [pM]
      have pD := xX.out
      rw [if_neg pM] at pD
      have vV := Z0 pD
      clear pD pM
      go_wp2_with fail
      go_quiet (fail)
      obtain ⟨wd, rI⟩ : ∃ wd, wd = wi.drewN nq := ⟨_, rfl⟩
      rw [<- rI]
      have qT : Below wi.1.size wi wd := by rw [rI]; exact below_drewN (Z9 _ _) _
      have vX := Z0 (rV.out.below qT rV.out.lt)
      have vY := Z0 ((qT.block _ (Z5.1 tU.out).1).trans tU.out)
      have vZ := Z0 (sR.out.trans (qT.mono sR.out.size))
      clear rI qT e1 e2
      go_wp2_with fail
      go_roundw
      case rel =>
       refine ⟨p + 1, by omega, by go_num, vZ.out, vY.out, ?_⟩
       rw [vV.out]
       exact vX.out
      case measure => simp [intOf]; omega
    ·obtain rfl : p = x.items.length := by omega
     rw [Kat] at rU
     have rV := Z0 rU
     clear rU sQ tT
     go_wp2_with fail
     go_roundw
     case rel => exact ⟨j + 1, by omega, by go_num, sR.out, by rw [iO.out]; exact rV.out⟩
     case measure => simp [intOf]; omega
  ·obtain rfl : j = Gs.length := by omega
   have pY : Below w.1.size w wo := qX.out.trans (hB.mono qX.out.size)
   have qR : Below w3.1.size w3 wo := pV.out.trans (hB.mono pV.out.size)
   have rB := sB.out Gs.length (Z1 _)
   have wA := hS.rd ps.length
   rw [rB] at wA
   have pO := Z0 pY
   have qC := Z0 qR
   have tW := Z0 wA
   clear hS rB wA pY qR hB hj pB
   go_upto_region 18 with fail
   obtain ⟨⟨p0, p1, p2, p3⟩, ⟨q0, q1, q2, q3⟩, r0, r1, r2⟩ := pH.out wo qC.out
   by_cases hb : PB
   ·have tX := Z0 hb
    clear hb
    by_cases ht : PT
    ·have sS := Z0 ht
     clear ht
     by_cases hc : PC
     ·have hy : PL := rL.out.1 tX.out sS.out hc
      have sG := Z0 hc
      have HY := Z0 hy
      clear hc hy
      go_wp2_with (first
       | (go_at_call 77; refine (rS.out wo _ pO.out tW.out).mono ?_; rintro e w6 ⟨u, rfl, pK, hu⟩; have hu := hu.true tX.out; subst hu; have qD := pO.out.trans (pK.mono pO.out.size); obtain ⟨_, ⟨s0, s1, s2, s3⟩, t0, t1, t2⟩ := pH.out w6 (qC.out.trans (pK.mono qC.out.size)))
       | (go_at_call 78; refine (tN.out w6 qD).mono ?_; rintro e w7 ⟨u, rfl, qP, hu⟩; have hu := hu.true sS.out; subst hu; have rJ := qD.trans (qP.mono qD.size); have wB := qC.out.trans ((pK.trans (qP.mono pK.size)).mono qC.out.size); obtain ⟨_, ⟨o0, o1, o2, o3⟩, v0, v1, v2⟩ := pH.out w7 wB)
       | (go_at_call 79; refine (vS.out w7 rJ).mono ?_; rintro e w8 ⟨u, rfl, wC, hu⟩; have hu := hu.true sG.out; subst hu))
      go_ret2
      exact ⟨_, rfl, rJ.trans (wC.mono rJ.size), IsB.yes HY.out⟩
     ·have pG : ¬ PL := fun h => hc (rL.out.2.2.2 h)
      have sG := Z0 hc
      have qE := Z0 pG
      clear hc pG
      go_wp2_with (first
       | (go_at_call 77; refine (rS.out wo _ pO.out tW.out).mono ?_; rintro e w6 ⟨u, rfl, pK, hu⟩; have hu := hu.true tX.out; subst hu; have qD := pO.out.trans (pK.mono pO.out.size); obtain ⟨_, ⟨s0, s1, s2, s3⟩, t0, t1, t2⟩ := pH.out w6 (qC.out.trans (pK.mono qC.out.size)))
       | (go_at_call 78; refine (tN.out w6 qD).mono ?_; rintro e w7 ⟨u, rfl, qP, hu⟩; have hu := hu.true sS.out; subst hu; have rJ := qD.trans (qP.mono qD.size); have wB := qC.out.trans ((pK.trans (qP.mono pK.size)).mono qC.out.size); obtain ⟨_, ⟨o0, o1, o2, o3⟩, v0, v1, v2⟩ := pH.out w7 wB)
       | (go_at_call 79; refine (vS.out w7 rJ).mono ?_; rintro e w8 ⟨u, rfl, wC, hu⟩; have hu := hu.false sG.out; subst hu))
      go_ret2
      exact ⟨_, rfl, rJ.trans (wC.mono rJ.size), IsB.no qE.out⟩
    ·have pG : ¬ PL := fun h => ht (rL.out.2.2.1 h)
     have sS := Z0 ht
     have qE := Z0 pG
     clear ht pG
     go_wp2_with (first
      | (go_at_call 77; refine (rS.out wo _ pO.out tW.out).mono ?_; rintro e w6 ⟨u, rfl, pK, hu⟩; have hu := hu.true tX.out; subst hu; have qD := pO.out.trans (pK.mono pO.out.size); obtain ⟨_, ⟨s0, s1, s2, s3⟩, t0, t1, t2⟩ := pH.out w6 (qC.out.trans (pK.mono qC.out.size)))
      | (go_at_call 78; refine (tN.out w6 qD).mono ?_; rintro e w7 ⟨u, rfl, qP, hu⟩; have hu := hu.false sS.out; subst hu))
     go_ret2
     exact ⟨_, rfl, qD.trans (qP.mono qD.size), IsB.no qE.out⟩
   ·have iS := Z0 hb
    have pG : ¬ PL := fun h => hb (rL.out.2.1 h)
    have qE := Z0 pG
    clear hb pG
    go_wp2_with (go_at_call 77; refine (rS.out wo _ pO.out tW.out).mono ?_; rintro e w6 ⟨u, rfl, pK, hu⟩; have hu := hu.false iS.out; subst hu)
    go_ret2
    exact ⟨_, rfl, Z01 pO.out pO.out.size pK, IsB.no qE.out⟩
end
section
open Go.RowKit
noncomputable def Zdc (k : Pck) (ps : List Pce) (zs : List Int) (Gs : List Grp) : Lod := ⟨(Z24 k ps zs Gs Gs.length).buns, (Z24 k ps zs Gs Gs.length).tras, (Z24 k ps zs Gs Gs.length).cons⟩
structure Pkd (k : Pck) (ps : List Pce) (zs : List Int) (ns : List ByteArray) (l : Lod) : Prop where
 ok : LodOk k ps zs ns l
 ord : l.buns.Pairwise BunLe
 own : ∀ b ∈ l.buns, b.ids ≠ [] /\ b.ids.Pairwise (· < ·) /\ ∀ i ∈ b.ids, 0 < i /\ i <= 999999
 nb : l.tras.flatMap (fun t => t.bs) = Z11 0 l.buns.length
 nt : l.cons.flatMap (fun c => c.ts) = Z11 0 l.tras.length
 bf : ∀ a b, Z1Z l.buns a b -> a.lvl = b.lvl -> a.grp = b.grp -> ∃ i : Int, 0 <= i /\ i.toNat < ps.length /\ b.ids.head? = some (Z18 ps i).id /\ ¬ ((a.ids.length : Int) < k.pieces /\ a.grams + (Z18 ps i).grams <= k.grams)
 tf : ∀ a b, Z1Z l.tras a b -> a.lvl = b.lvl -> a.grp = b.grp -> (a.bs.length : Int) = k.bundles
 cf : ∀ a b, Z1Z l.cons a b -> a.lvl = b.lvl -> (a.ts.length : Int) = k.trays
 lens : l.buns.length <= ps.length /\ l.tras.length <= ps.length /\ l.cons.length <= ps.length
 idn : (l.buns.flatMap (fun b => b.ids)).length = ps.length
theorem Zep {ps : List Pce} {i : Int} (h : i.toNat < ps.length) : Z18 ps i ∈ ps := by
 unfold Z18
 rw [Z2, Z3 h]
 exact Z4 h
theorem ZiL {ls : List Lev} {m : Mai} (h : HasPlan ls m) {zs : List Int} (pM : zs.length = m.ps.length) (hn : Z1K ls.length zs = true) {k : Pck} (hk : Z5R k = true) (qF : ∀ p ∈ m.ps, p.grams <= k.grams) :
 Pkd k m.ps zs (Z65 zs (Z0T ls (Z06 m.ps) ls.length) m.ps.length (Z0T ls (Z06 m.ps) ls.length).length) (Zdc k m.ps zs (Z0T ls (Z06 m.ps) ls.length)) := by
 obtain ⟨qV, hu⟩ := Z8L h.mail
 have pT : (Z06 m.ps).length = m.ps.length := Z1A _
 have hG : GrpsIn m.ps (Z0T ls (Z06 m.ps) ls.length) := Zbg pT
 have hO : OwnIn m.ps zs (Z0T ls (Z06 m.ps) ls.length) := Zce pT pM hn
 have qG : (1 <= k.pieces /\ k.pieces <= 2000 /\ 1 <= k.grams /\ k.grams <= 1000000) /\ (1 <= k.bundles /\ k.bundles <= 200 /\ 1 <= k.trays /\ k.trays <= 200) := by
  unfold Z5R at hk
  rw [ZF, Kab, Kab] at hk
  exact hk
 obtain ⟨Gs, rD⟩ : ∃ Gs, Gs = Z0T ls (Z06 m.ps) ls.length := ⟨_, rfl⟩
 rw [<- rD] at hG hO ⊢
 have rP : 1 <= k.pieces := qG.1.1
 have sT : 0 <= k.grams := by omega
 have tY : 1 <= k.bundles := qG.2.1
 have tZ : 1 <= k.trays := by omega
 have uA := Zel tY tZ m.ps zs Gs Gs.length (Z1 _)
 have hF := Z8B tY tZ hG.order (ps := m.ps) (zs := zs) Gs.length (Z1 _)
 have hl := Zgj rP sT tY tZ qF hu hG hO
 have hs := ZbY rP sT tY tZ qF hu hG hO Gs.length (Z1 _)
 have uB := uA.buns
 rw [Kat] at uB
 have iT := uA.fin (.inr (fun h => absurd h (Kde _)))
 refine ⟨hl, ?_, ?_, uA.nb, ?_, ?_, hF.tf, hF.cf, ⟨hs.1, hs.2.1, hs.2.2.1⟩, hl.buns.all⟩
 ·show (Z24 k m.ps zs Gs Gs.length).buns.Pairwise BunLe
  rw [uB]
  exact Zdu rP sT qF hu hG
 ·show ∀ b ∈ (Z24 k m.ps zs Gs Gs.length).buns, _
  intro b hb
  obtain ⟨I, hI, hid, _⟩ := hl.buns.good b hb
  rw [uB] at hb
  obtain ⟨x, hx, hb⟩ := Ka5.1 hb
  have h2 := (Z2n (zs := zs) rP sT qF hu hG hx).2 b hb
  refine ⟨h2.2.2.1, h2.2.2.2.2.2, fun i hi => ?_⟩
  rw [hid] at hi
  obtain ⟨j, hj, rfl⟩ := Kae.1 hi
  have := qV _ (Zep (hI j hj).2.1)
  exact ⟨this.1, this.2.1⟩
 ·show (Z24 k m.ps zs Gs Gs.length).cons.flatMap _ = Z11 0 (Z24 k m.ps zs Gs Gs.length).tras.length
  rw [uA.nt, iT]
 ·show ∀ a b, Z1Z (Z24 k m.ps zs Gs Gs.length).buns a b -> _
  rw [uB]
  intro a b iU h1 h2
  exact Zfv rP sT qF hu hG iU h1 h2
theorem Pkd.smallL {k : Pck} {ps : List Pce} {zs : List Int} {ns : List ByteArray} {l : Lod} (h : Pkd k ps zs ns l) (hp : ps.length <= 100000) : SmallL l := by
 obtain ⟨h1, h2, h3⟩ := h.lens
 refine ⟨by omega, by omega, by omega, by rw [h.idn]; exact hp, ?_, ?_⟩
 ·rw [h.nb, Z1b]; omega
 ·rw [h.nt, Z1b]; omega
end
end Go.Proofs.YtlgajongmkhcnaaGreatDoor
