import Derived.Test.YtlgajongmkhcnaaGreatDoorQUG
import Derived.BigQuiet
set_option maxRecDepth 100000
set_option linter.unusedVariables false
set_option linter.unusedSimpArgs false
set_option maxHeartbeats 32000000
namespace Go.Proofs.YtlgajongmkhcnaaGreatDoor
section
open Go.RowKit Go.Sort
theorem ZiL {w : World} {g : Nat} {a b : Value} {t : TypeId} {fr : Nat × Nat} (h : w.1[g]? = some (.cells #[a, b] t fr)) : w.cell? ⟨g, 0, none⟩ = some a /\ w.cell? ⟨g, 1, none⟩ = some b := ⟨Kaa _ _ 0 _ _ _ h, Kaa _ _ 1 _ _ _ h⟩
theorem Z4l (k : Pck) (l : Lod) (vb vt vc : Value) (w : World) (hr : RdLod w vb vt vc l) (hs : SmallL l) :
 Calls Tryz.prog 79 #[Z4J k, Zeh vb vt vc] w fun e w' => ∃ v, e = .returned v /\ Below w.1.size w w' /\ IsB v (ConsOk k l) := by
 obtain ⟨i0, hi⟩ := info_parts Tryz.infoSlT
 have HI := Z0 hi
 obtain ⟨ab, cb, rW, sS⟩ := hr.b
 obtain ⟨at', ct, qL, wB⟩ := hr.t
 obtain ⟨ac, cc, uA, wC⟩ := hr.c
 subst rW qL uA
 have iP := hs.t
 have iQ := hs.c
 have iR := hs.ci
 have rK := fun x hx => Zbo (f := fun t : Con => t.ts) hs.ci x hx
 have xW := Z0 (fun W v (hb : RdLL W v (l.cons.map (fun t => t.ts))) => ZcF (l.cons.map (fun t => t.ts)) l.tras.length k.trays v W hb (by omega) (by rw [Z1v]; omega) (by rw [Z7]; omega))
 have qM := fun (h : OnceOk (l.cons.map (fun t => t.ts)) l.tras.length k.trays) (h2 : ∀ t ∈ l.cons, ∀ i ∈ t.ts, ∃ b, l.tras[i.toNat]? = some b /\ b.lvl = t.lvl) => (⟨h, h2⟩ : ConsOk k l)
 have xX := fun (h : ConsOk k l) => h
 unfold Zeh Z4J
 obtain ⟨kp, kg, kb, kt⟩ := k
 obtain ⟨bs, ts, cs⟩ := l
 dsimp only at *
 obtain ⟨w2, uB⟩ : ∃ w2, w2 = (w.alloc (.cells #[.int .i64 kp, .int .i64 kg, .int .i64 kb, .int .i64 kt] 37)).alloc (.cells #[.slice ab bs.length cb, .slice at' ts.length ct, .slice ac cs.length cc] 52) := ⟨_, rfl⟩
 obtain ⟨g1, g2, z2, b2⟩ := Z8M uB
 obtain ⟨x0, x1, x2⟩ := cells3 g2
 have xY := Z0 uB
 have pU := Z0 b2
 have HL := Z0 (fun (W : World) (hB : Below w2.1.size w2 W) => And.intro (Z0H ((hB.block _ (by omega)).trans g1)) (cells3 ((hB.block _ (by omega)).trans g2)))
 have xZ := Z0 wB
 have wD := Z0 wC
 have rL := Z0 qM
 have yA := Z0 rK
 clear uB g1 g2 z2 b2 sS wB wC hr hs qM xX hi rK
 go_enter Tryz.func79, Tryz.ntmps79
 go_upto_region 1 with fail
 rw [<- xY.out]
 go_wp2_with (at_make; refine wpList_make_own _ rfl _ _ 109 rfl w2.1.size 35 i0 (.slice none 0 0) 1 Tryz.underlying109 HI.out.1 HI.out.2.1 HI.out.2.2.1 _ _ _ cs.length rfl (by first | rfl | simp) rfl (by rw [HI.out.2.2.2]; omega) (by unfold maxLen; omega) (Z1 _) ?_; intro w3 pV pI; have pN : Below w2.1.size w2 w3 := (Z9 _ _).grown pI (Z1 _) (fun _ e => by cases e); have pD := Z0 pN; have yB := Z0 pV; clear pI pV; obtain ⟨⟨u0, u1, u2, u3⟩, v0, v1, v2⟩ := HL.out w3 pN)
 go_loopw [5, 19] (fun lv i wx => ∃ q : Nat, q <= cs.length /\ i = .int .i64 q /\ Below w2.1.size w2 wx /\ OwnsRL w wx w2.1.size lv ((cs.take q).map (fun t => t.ts))) (fun _ i _ => cs.length - (intOf i).toNat)
 case atStart => exact ⟨0, ZE _, rfl, pD.out, ⟨[], by simp, by simp, yB.out⟩⟩
 case round =>
  clear u0 u1 u2 u3 v0 v1 v2 pN x0 x1 x2
  obtain ⟨q, hq, rfl, hB, hO⟩ := hrel
  have pQ := Z0 hB
  by_cases pA : q < cs.length
  ·obtain ⟨g, off, rfl, hg, rX⟩ := wD.out (by omega)
   obtain ⟨s, hs, pO⟩ := rX q pA
   have pE : (cs.take (q + 1)).map (fun t => t.ts) = (cs.take q).map (fun t => t.ts) ++ [cs[q].ts] := by rw [Z8 pA, ZD]; rfl
   obtain ⟨t, ht⟩ : ∃ t, t = cs[q] := ⟨_, rfl⟩
   rw [<- ht] at hs pO pE
   have pB : Below w.1.size w wr := pU.out.trans (hB.mono pU.out.size)
   have f0 : wr.cell? ⟨g, off + q * 2, none⟩ = some (.int .i64 t.lvl) := (pB.cell (p := ⟨g, off + q * 2, none⟩) hg).trans (pO 0 _ rfl)
   have f2 : wr.cell? ⟨g, off + q * 2 + 1, none⟩ = some s := (pB.cell (p := ⟨g, off + q * 2 + 1, none⟩) hg).trans (pO 1 _ rfl)
   have HS := Z0 hs
   obtain ⟨as1, cs', rfl, _⟩ := hs
   have sT := Z0 pE
   obtain ⟨av, cv, rY⟩ := hO.form
   have sU : ((cs.take q).map (fun t => t.ts)).length = q := by rw [Z7, Kax]; omega
   rw [sU] at rY
   subst rY
   obtain ⟨L, hL, hLr, hLo⟩ := hO
   have yC : L.length = q := by rw [<- sU, <- hL, Z7]
   subst yC
   have yD := Z0 hL
   have yE := Z0 hLr
   have wE := (hLo.alloc (.cells #[.int .i64 t.lvl, .slice as1 t.ts.length cs'] 114)).alloc (.cells #[.slice as1 t.ts.length cs'] 35)
   have yF := Z0 wE
   have yG := Z0 (fun r e => (hLo.lt r e).1)
   clear ht pO rX pB pE hL hLr hLo wE sU hB
   go_wp2_with (at_builtin; refine wpList_append_own _ rfl _ _ 109 rfl w2.1.size 35 i0 (.slice none 0 0) 1 24 Tryz.underlying109 HI.out.1 HI.out.2.1 HI.out.2.2.1 HI.out.2.2.2 rfl (by decide) _ L.length _ rfl yF.out ⟨wr.1.size + 1, 0, none⟩ 1 1 [.slice as1 t.ts.length cs'] rfl (by simp) (by simpa using cell_one_new (wr.alloc (.cells #[.int .i64 t.lvl, .slice as1 t.ts.length cs'] 114)) (.slice as1 t.ts.length cs') 35) (by simp [Value.oneCell']) (by unfold maxLen; omega) (by omega) (by have := pQ.out.size; simp; omega) ?_; intro v' w5 yH pI _)
   go_roundw
   case rel =>
    refine ⟨L.length + 1, by omega, by go_num, ((pQ.out.alloc pQ.out.size _).alloc (by have := pQ.out.size; simp; omega) _).grown pI (by have := pQ.out.size; simp; omega) (fun r e => yG.out r e), L ++ [(t.ts, .slice as1 t.ts.length cs')], ?_, ?_, ?_⟩
    ·rw [sT.out, ZD, yD.out]; rfl
    ·intro p hp
     rcases ZG.1 hp with hp | hp
     ·exact yE.out p hp
     ·rw [ZI.1 hp]; exact HS.out
    ·rw [ZC, ZD]
     exact yH
   case measure => simp [intOf]; omega
  ·obtain rfl : q = cs.length := by omega
   rw [Kat] at hO
   have pB : Below w.1.size w wr := pU.out.trans (hB.mono pU.out.size)
   have HR := Z0 (hO.rd pB)
   obtain ⟨av, cv, rY⟩ := hO.form
   rw [Z7] at rY
   subst rY
   have sV := Z0 pB
   obtain ⟨⟨u0, u1, u2, u3⟩, v0, v1, v2⟩ := HL.out wr hB
   clear hO pB hB
   go_upto_region 7 with fail
   go_cut [36] from 29 to 36 (fun b wx => ∃ c : Bool, b = .bool (!c) /\ (c = true ↔ OnceOk (cs.map (fun t => t.ts)) ts.length kt) /\ Below wr.1.size wr wx)
   case first =>
    go_wp2_with (go_at_call 114; refine (xW.out wr _ HR.out).mono ?_; rintro e w6 ⟨vv, rfl, pJ, r, rfl, hr⟩)
    go_meet
    exact ⟨r, rfl, hr, pJ⟩
   case rest =>
    clear u0 u1 u2 u3 v0 v1 v2
    obtain ⟨wp, yI⟩ : ∃ x, x = wc := ⟨_, rfl⟩
    subst yI
    obtain ⟨c, rfl, hc, wF⟩ := hcut
    have uC := Z0 (pQ.out.trans (wF.mono pQ.out.size))
    have HC := Z0 hc
    clear wF hc
    cases c
    ·have hr : ¬ ConsOk ⟨kp, kg, kb, kt⟩ ⟨bs, ts, cs⟩ := fun h => by have := HC.out.2 h.once; cases this
     have rZ := Z0 hr
     clear hr
     go_wp2_with fail
     go_ret
     exact ⟨_, rfl, pU.out.trans (uC.out.mono pU.out.size), IsB.no rZ.out⟩
    ·have uD := HC.out.1 rfl
     have rM := fun t (ht : t ∈ cs) i (hi : i ∈ t.ts) => uD.ins i (by rw [Z1v]; exact Ka5.2 ⟨t, ht, hi⟩)
     have yJ := Z0 uD
     have yK := Z0 rM
     obtain ⟨⟨u0, u1, u2, u3⟩, v0, v1, v2⟩ := HL.out wp uC.out
     clear uD rM
     go_wp2_with fail
     go_loopw [40] (fun i wx => ∃ q : Nat, q <= cs.length /\ i = .int .i64 q /\ Below w2.1.size w2 wx /\ ∀ t ∈ cs.take q, ∀ i ∈ t.ts, ∃ b, ts[i.toNat]? = some b /\ b.lvl = t.lvl) (fun i _ => cs.length - (intOf i).toNat)
     case atStart => exact ⟨0, ZE _, rfl, uC.out, by simp⟩
     case round =>
      clear u0 u1 u2 u3 v0 v1 v2
      obtain ⟨wo, pW⟩ : ∃ x, x = wr := ⟨_, rfl⟩
      subst pW
      obtain ⟨q, hq, rfl, hB, rN⟩ := hrel
      have HB := Z0 hB
      have qT := Z0 rN
      clear rN
      by_cases pA : q < cs.length
      ·obtain ⟨g, off, rfl, hg, rX⟩ := wD.out (by omega)
       obtain ⟨s, hs, pO⟩ := rX q pA
       have pB : Below w.1.size w wo := pU.out.trans (hB.mono pU.out.size)
       have sW := Z4 pA
       have pE : cs.take (q + 1) = cs.take q ++ [cs[q]] := Z8 pA
       have yL := yA.out _ sW
       have rM := yK.out _ sW
       have pG : ConsOk ⟨kp, kg, kb, kt⟩ ⟨bs, ts, cs⟩ -> ∀ i ∈ cs[q].ts, ∃ b, ts[i.toNat]? = some b /\ b.lvl = cs[q].lvl := fun h => h.grp _ sW
       obtain ⟨t, ht⟩ : ∃ t, t = cs[q] := ⟨_, rfl⟩
       rw [<- ht] at hs pO pE yL rM pG
       have f0 : wo.cell? ⟨g, off + q * 2, none⟩ = some (.int .i64 t.lvl) := (pB.cell (p := ⟨g, off + q * 2, none⟩) hg).trans (pO 0 _ rfl)
       have f2 : wo.cell? ⟨g, off + q * 2 + 1, none⟩ = some s := (pB.cell (p := ⟨g, off + q * 2 + 1, none⟩) hg).trans (pO 1 _ rfl)
       obtain ⟨as1, cs', rfl, wG⟩ := hs
       obtain ⟨Wt, sA⟩ : ∃ W, W = wo.alloc (.cells #[.int .i64 t.lvl, .slice as1 t.ts.length cs'] 114) := ⟨_, rfl⟩
       have hn := Z02 wo (.cells #[.int .i64 t.lvl, .slice as1 t.ts.length cs'] 114)
       have uE : Below wo.1.size wo Wt := by rw [sA]; exact (Z9 _ _).alloc (Z1 _) _
       have wH : wo.1.size < Wt.1.size := by rw [sA, Z6]; exact Ka4 _
       rw [<- sA] at hn
       have yM := Z0 sA
       have HN := Z0 hn
       have sB := Z0 wH
       have sT := Z0 pE
       have yN := Z0 rM
       have qB := Z0 pG
       have yO := Z0 wG
       have sX := Z0 (HB.out.trans (uE.mono HB.out.size))
       have rO := Z0 (pB.trans (uE.mono pB.size))
       obtain ⟨n0, n1⟩ := ZiL hn
       clear ht pO rX sA hn wH pE rM pG wG pB uE sW hB
       go_upto_region 12 with fail
       rw [<- yM.out]
       go_wp2_with fail
       go_loopw [47] (fun i wx => ∃ p : Nat, p <= t.ts.length /\ i = .int .i64 p /\ Below Wt.1.size Wt wx /\ ∀ i ∈ t.ts.take p, ∃ b, ts[i.toNat]? = some b /\ b.lvl = t.lvl) (fun i _ => t.ts.length - (intOf i).toNat)
       case atStart => exact ⟨0, ZE _, rfl, Z9 _ _, by simp⟩
       case round =>
        clear n0 n1 f0 f2
        obtain ⟨wi, sC⟩ : ∃ x, x = wr := ⟨_, rfl⟩
        subst sC
        obtain ⟨p, hp, rfl, hB, wI⟩ := hrel
        have pD := Z0 hB
        have uF := Z0 wI
        clear wI
        by_cases qU : p < t.ts.length
        ·obtain ⟨gs, os, rfl, uG, sD⟩ := yO.out (by omega)
         have pB : Below w.1.size w wi := rO.out.trans (hB.mono rO.out.size)
         have e1 := (pB.cell (p := ⟨gs, os + p, none⟩) uG).trans (sD p qU)
         obtain ⟨i0', i1'⟩ := yN.out _ (Z4 qU)
         have pG := fun h => qB.out h _ (Z4 qU)
         have uH : t.ts.take (p + 1) = t.ts.take p ++ [t.ts[p]] := Z8 qU
         obtain ⟨x, hx⟩ : ∃ x, x = t.ts[p] := ⟨_, rfl⟩
         rw [<- hx] at e1 i0' i1' pG uH
         obtain ⟨j, rfl⟩ : ∃ j : Nat, x = (j : Int) := ⟨x.toNat, by omega⟩
         have hj : j < ts.length := by omega
         rw [Kar, Z3 hj] at pG
         obtain ⟨gb, ob, rfl, yP, sS⟩ := xZ.out (by omega)
         obtain ⟨sb, _, pO⟩ := sS j hj
         have uI : ts[j]? = some ts[j] := Z3 hj
         obtain ⟨b, wJ⟩ : ∃ b, b = ts[j] := ⟨_, rfl⟩
         rw [<- wJ] at pO pG uI
         have b0 : wi.cell? ⟨gb, ob + j * 3, none⟩ = some (.int .i64 b.lvl) := (pB.cell (p := ⟨gb, ob + j * 3, none⟩) yP).trans (pO 0 _ rfl)
         obtain ⟨⟨u0, u1, u2, u3⟩, v0, v1, v2⟩ := HL.out wi (sX.out.trans (hB.mono sX.out.size))
         obtain ⟨n0, n1⟩ := ZiL ((hB.block _ sB.out).trans HN.out)
         have yQ := Z0 pG
         have yR := Z0 uH
         have yS := Z0 uI
         clear pO sS wJ pG uH uI hx sD pB hB i0' i1'
         by_cases q1 : b.lvl = t.lvl
         ·have pP : (b.lvl != t.lvl) = false := by simp [q1]
          have Q := Z0 q1
          clear q1
          go_wp2_with fail
          go_quiet (fail)
          go_wp2_with fail
          go_roundw
          case rel =>
           refine ⟨p + 1, by omega, by go_num, (by first | exact below_drewN pD.out _ | exact pD.out.drew), ?_⟩
           rw [yR.out]
           intro y hy
           rcases ZG.1 hy with hy | hy
           ·exact uF.out y hy
           ·rw [ZI.1 hy, Kar]
            exact ⟨b, yS.out, Q.out⟩
          case measure => simp [intOf]; omega
         ·have pP : (b.lvl != t.lvl) = true := by simp [q1]
          have hr : ¬ ConsOk ⟨kp, kg, kb, kt⟩ ⟨bs, ts, cs⟩ := fun h => by
           obtain ⟨b', h1, h2⟩ := yQ.out h
           obtain rfl := Kav h1
           exact q1 h2
          have rZ := Z0 hr
          clear hr q1
          go_wp2_with fail
          go_quiet (fail)
          go_wp2_with fail
          go_ret
          exact ⟨_, rfl, by first | exact below_drewN (rO.out.trans (pD.out.mono rO.out.size)) _ | exact (rO.out.trans (pD.out.mono rO.out.size)).drew, IsB.no rZ.out⟩
        ·obtain rfl : p = t.ts.length := by omega
         rw [Kat] at uF
         clear hB
         go_wp2_with fail
         go_roundw
         case rel =>
          refine ⟨q + 1, by omega, by go_num, sX.out.trans (pD.out.mono sX.out.size), ?_⟩
          rw [sT.out]
          intro y hy
          rcases ZG.1 hy with hy | hy
          ·exact qT.out y hy
          ·rw [ZI.1 hy]
           exact uF.out
         case measure => simp [intOf]; omega
      ·obtain rfl : q = cs.length := by omega
       have rN := qT.out
       rw [Kat] at rN
       have rZ := Z0 (rL.out yJ.out rN)
       clear rN hB
       go_wp2_with fail
       go_ret
       exact ⟨_, rfl, pU.out.trans (HB.out.mono pU.out.size), IsB.yes rZ.out⟩
theorem Zfm {ls : List Lev} {m : Mai} (h : HasPlan ls m) (v vp vz : Value) (zs : List Int) (k : Pck) (w : World) (hr : RdLevs w v ls) (qC : RdPces w vp m.ps) (hz : RdInts w vz zs) (pK : zs.length = m.ps.length) (hn : Z1j ls.length zs = true) (hA : Zb3 ls m zs k = 0)
 (hk : Z7K k = true) (qD : ∀ p ∈ m.ps, p.grams <= k.grams) :
 Calls Tryz.prog 12 #[v, Z2r m vp, vz, Z4J k] w fun e w' => ∃ vb vt vc, e = .returned (.tuple #[Zeh vb vt vc, .int .i64 0]) /\ Below w.1.size w w' /\
  OwnsX 67 4 Z0T (fun b => b.ids) w' w.1.size vb (Z29 k m.ps zs (Z16 ls (Z07 m.ps) ls.length) (Z16 ls (Z07 m.ps) ls.length).length).buns /\
  OwnsX 112 3 Z34 (fun t => t.bs) w' w.1.size vt (Z29 k m.ps zs (Z16 ls (Z07 m.ps) ls.length) (Z16 ls (Z07 m.ps) ls.length).length).tras /\
  OwnsX 114 2 Z3h (fun c => c.ts) w' w.1.size vc (Z29 k m.ps zs (Z16 ls (Z07 m.ps) ls.length) (Z16 ls (Z07 m.ps) ls.length).length).cons := by
 obtain ⟨j0, hj⟩ := info_parts Tryz.infoB4
 have sY := Z0 hj
 obtain ⟨j1, wK⟩ := info_parts Tryz.infoTr
 have sZ := Z0 wK
 obtain ⟨j2, wL⟩ := info_parts Tryz.infoCo
 have tA := Z0 wL
 have rK := h.few
 have yT := Z0y h.right
 have uJ := h.groups_few
 obtain ⟨qV, sE⟩ := Z9b h.mail
 have pR : (Z07 m.ps).length = m.ps.length := Z1G _
 have hG : GrpsIn m.ps (Z16 ls (Z07 m.ps) ls.length) := ZbS pR
 have hO : OwnIn m.ps zs (Z16 ls (Z07 m.ps) ls.length) := ZcT pR pK hn
 have qE : (1 <= k.pieces /\ k.pieces <= 2000 /\ 1 <= k.grams /\ k.grams <= 1000000) /\ (1 <= k.bundles /\ k.bundles <= 200 /\ 1 <= k.trays /\ k.trays <= 200) := by
  unfold Z7K at hk
  rw [ZF, Kab, Kab] at hk
  exact hk
 have qT := Z0 (fun W (hW : Below w.1.size w W) => Z7E ls v vp vz m zs k W (hr.below hW) (Z1A h.right) (by omega) (qC.below hW) h.rng h.org (by omega) (fun p hp => by have := Z0w ((Z1Q h.mail).2 p hp); unfold maxLen; omega) (hz.below hW) (by omega))
 rw [hA] at qT
 have sF := Z0 (fun W (hW : Below w.1.size w W) => Z7p h (hr.below hW) (qC.below hW))
 have rC : ∀ x ∈ Z16 ls (Z07 m.ps) ls.length, x.items.length <= 2000 := fun x hx => by
  obtain ⟨mm, n, _, _, rfl⟩ := Z2b.1 hx
  have := Z7g ls (Z07 m.ps) mm n
  show (itm ls (Z07 m.ps) mm n).length <= 2000
  omega
 obtain ⟨Gs, rD⟩ : ∃ Gs, Gs = Z16 ls (Z07 m.ps) ls.length := ⟨_, rfl⟩
 rw [<- rD] at uJ hG hO sF rC ⊢
 have wM := Z0 (fun (x : Grp) (hx : x ∈ Gs) sv W (hW : Below w.1.size w W) (hs : RdInts W sv x.items) => Z9v x sv vp vz m zs k W hs (qC.below hW) (hz.below hW) pK rK (rC x hx) (fun i hi => (hG.items x hx).2 i hi) ⟨qE.1.1, qE.1.2.1, by omega, qE.1.2.2.2⟩ (fun p hp => ⟨by have := qV p hp; omega, by have := qV p hp; omega, qD p hp⟩))
 have uK := Z0 (fun n hn => Zcv (k := k) (ps := m.ps) (zs := zs) (Gs := Gs) qE.1.1 (by omega) qE.2.1 qE.2.2.2.1 qD sE hG hO n hn)
 have iS := Z0 qC
 have yU := Z0 qD
 have tB := Z0 (fun j hj he st pC bs pS ts pF => Zhu (k := k) (ps := m.ps) (zs := zs) (Gs := Gs) (j := j) hj he (st := st) pC (bs := bs) pS (ts := ts) pF)
 have tC := Z0 (fun j hj he st pC bs pS ts pF => Zhv (k := k) (ps := m.ps) (zs := zs) (Gs := Gs) (j := j) hj he (st := st) pC (bs := bs) pS (ts := ts) pF)
 obtain ⟨av, cv, rfl, wN⟩ := qC
 have sG := Z0 wN
 clear hj wK wL qV sE pR hG hO hk rC rD hr hz hn hA h wN qD
 obtain ⟨pkS, uL⟩ : ∃ f : Nat -> PkS, f = Z29 k m.ps zs Gs := ⟨_, rfl⟩
 have wO : Hid (pkS 0 = ⟨[], [], [], 0⟩) := by rw [uL]; unfold Z29; rfl
 rw [<- uL] at uK tB tC ⊢
 have yV : Hid (∀ x, Z10 k m.ps zs x = Z10 k m.ps zs x) := fun _ => rfl
 obtain ⟨bOf, wP⟩ : ∃ f : Grp -> List Bun, f = Z10 k m.ps zs := ⟨_, rfl⟩
 rw [<- wP] at tB tC wM
 unfold Z2r Z4J Zeh at *
 obtain ⟨kp, kg, kb, kt⟩ := k
 obtain ⟨cls, ctr, org, ps⟩ := m
 dsimp only at *
 obtain ⟨rP, iT⟩ := qE
 obtain ⟨kb, rfl⟩ : ∃ n : Nat, kb = (n : Int) := ⟨kb.toNat, by omega⟩
 obtain ⟨kt, rfl⟩ : ∃ n : Nat, kt = (n : Int) := ⟨kt.toNat, by omega⟩
 rw [Kar, Kar] at tB
 rw [Kar] at tC
 clear uL wP yV
 obtain ⟨w3, pX⟩ : ∃ w3, w3 = ((w.alloc (.cells #[.int .u8 cls, .int .u8 ctr, .string org, .slice av ps.length cv] 34)).alloc (.cells #[.int .i64 kp, .int .i64 kg, .int .i64 kb, .int .i64 kt] 37)).alloc (.cells #[.slice none 0 0, .slice none 0 0, .slice none 0 0] 52) := ⟨_, rfl⟩
 obtain ⟨g1, g2, g3⟩ := ZaU pX
 have tD : w3.1.size = w.1.size + 1 + 1 + 1 := by rw [pX, Z6, Z6, Z6]
 have pN : Below w.1.size w w3 := by
  rw [pX]
  exact (((Z9 _ w).alloc (Z1 _) _).alloc (by simp) _).alloc (by simp; omega) _
 have pH := Z0 (fun (W : World) (hB : Below w3.1.size w3 W) => And.intro (Z0H ((hB.block _ (by omega)).trans g1)) (Z0H ((hB.block _ (by omega)).trans g2)))
 have yW := Z0 (fun (W : World) (hB : Below w3.1.size w3 W) => (hB.block _ (by omega)).trans g3)
 have uM := Z0 (fun (W : World) (hB : Below w3.1.size w3 W) => (fun j => Z3N (i := j) ((hB.block _ (by omega)).trans g3) : ∀ j, W.frozen? ⟨w.1.size + 1 + 1, j, none⟩ = false))
 have uN := Z0 pX
 have pD := Z0 pN
 have iU := Z0 tD
 clear pX pN tD g1 g2 g3
 obtain ⟨⟨x0, x1, x2, x3⟩, y0, y1, y2, y3⟩ := pH.out w3 (Z9 _ _)
 go_enter Tryz.func12, Tryz.ntmps12
 go_upto_region 1 with fail
 rw [<- uN.out]
 go_wp2_with (go_at_call 29; refine (qT.out _ pD.out).mono ?_; rintro e w4 ⟨rfl, qN⟩; obtain ⟨⟨f0, f1, f2, f3⟩, e0, e1, e2, e3⟩ := pH.out w4 qN)
 go_loopw [37] (fun i wx => ∃ j : Nat, j <= ps.length /\ i = .int .i64 j /\ Below w3.1.size w3 wx) (fun i _ => ps.length - (intOf i).toNat)
 case atStart => exact ⟨0, ZE _, rfl, qN⟩
 case round =>
  clear f0 f1 f2 f3 e0 e1 e2 e3 qN x0 x1 x2 x3 y0 y1 y2 y3
  obtain ⟨j, hj, rfl, hB⟩ := hrel
  have pQ := Z0 hB
  by_cases pA : j < ps.length
  ·obtain ⟨g, off, rfl, hg, qW⟩ := sG.out (by omega)
   have hp := ((qW j pA).below pD.out hg).below hB (ZH hg pD.out.size)
   have uO := yU.out _ (Z4 pA)
   obtain ⟨p, wQ⟩ : ∃ p, p = ps[j] := ⟨_, rfl⟩
   rw [<- wQ] at hp uO
   obtain ⟨id, pt, cd, gr, br⟩ := p
   obtain ⟨p0, p1, p2, p3, p4⟩ := hp
   dsimp only at p0 p1 p2 p3 p4 uO
   obtain ⟨⟨f0, f1, f2, f3⟩, e0, e1, e2, e3⟩ := pH.out (wr.alloc (.cells #[.int .i64 id, .int .i64 pt, .string cd, .int .i64 gr, .bool br] 65)) (hB.alloc hB.size _)
   have sU : ¬ gr > kg := by omega
   clear wQ qW hB uO
   go_wp2_with fail
   go_roundw
   case rel => exact ⟨j + 1, by omega, by go_num, pQ.out.alloc pQ.out.size _⟩
   case measure => simp [intOf]; omega
  ·obtain ⟨⟨f0, f1, f2, f3⟩, e0, e1, e2, e3⟩ := pH.out wr hB
   have pB : Below w.1.size w wr := pD.out.trans (hB.mono pD.out.size)
   have sV := Z0 pB
   clear hB pB
   go_wp2_with (go_at_call 30; refine (sF.out _ sV.out).mono ?_; rintro e wg ⟨ag, cg, rfl, qF, sH⟩; have pT := Z0 (pQ.out.trans (qF.mono pQ.out.size)); have qX := Z0 (sV.out.trans (qF.mono sV.out.size)); have tE := Z0 sH; clear qF sH)
   have hj' : j = ps.length := by omega
   clear pA hj' hj e0 e1 e2 e3 f0 f1 f2 f3
   have wR : Hid (LodW (wg.alloc (.cells #[.slice none 0 0, .slice none 0 0, .slice none 0 0] 52)) wg.1.size wg.1.size [] [] [] (.slice none 0 0) (.slice none 0 0) (.slice none 0 0)) := ⟨Z02 wg _, OwnsX.nil _ _, OwnsX.nil _ _, OwnsX.nil _ _⟩
   go_loopw [16, 60] (fun bg i wx => ∃ (j : Nat) (vb vt vc : Value), j <= Gs.length /\ i = .int .i64 j /\ bg = .int .i64 ((pkS j).beg : Nat) /\ Below wg.1.size wg wx /\ LodW wx wg.1.size wg.1.size (pkS j).buns (pkS j).tras (pkS j).cons vb vt vc) (fun _ i _ => Gs.length - (intOf i).toNat)
   case atStart => exact ⟨0, _, _, _, ZE _, rfl, by rw [wO.out]; rfl, (Z9 _ _).alloc (Z1 _) _, by rw [wO.out]; exact wR.out⟩
   case round =>
    clear wR
    obtain ⟨wo, pW⟩ : ∃ x, x = wr := ⟨_, rfl⟩
    subst pW
    obtain ⟨j, vb, vt, vc, hj, rfl, rfl, hB, hL⟩ := hrel
    have HB := Z0 hB
    by_cases pA : j < Gs.length
    ·have yX := uK.out j (by omega)
     have qY := uK.out (j + 1) pA
     have qG := tB.out j pA
     have qH := tC.out j pA
     have uP := wM.out Gs[j] (Z4 pA)
     have wS := Zi1 (Gs := Gs) (j := j)
     obtain ⟨gg, og, rfl, tF, qZ⟩ := RdGrps.lies tE.out (by omega)
     obtain ⟨sv, hsv, rA⟩ := qZ j pA
     obtain ⟨x, hx⟩ : ∃ x, x = Gs[j] := ⟨_, rfl⟩
     rw [<- hx] at qG qH uP hsv rA
     obtain ⟨asx, csx, uQ, _⟩ := id hsv
     subst uQ
     obtain ⟨st, pC⟩ : ∃ st, st = pkS j := ⟨_, rfl⟩
     have qG := fun he bs pS ts pF => qG he st pC bs pS ts pF
     have qH := fun he bs pS ts pF => qH he st pC bs pS ts pF
     rw [<- pC] at yX hL ⊢
     obtain ⟨bs, pS⟩ : ∃ bs, bs = st.buns ++ bOf x := ⟨_, rfl⟩
     have qG := fun he ts pF => qG he bs pS ts pF
     have qH := fun he ts pF => qH he bs pS ts pF
     obtain ⟨ts, pF⟩ : ∃ ts, ts = st.tras ++ (Z0V st.buns.length bs.length kb).map (Z5e x) := ⟨_, rfl⟩
     have qG := fun he => qG he ts pF
     have qH := fun he => qH he ts pF
     have yY : bs.length <= ps.length /\ ts.length <= ps.length := by
      by_cases he : Z3f Gs j
      ·rw [qG he] at qY; exact ⟨qY.1, qY.2.1⟩
      ·rw [qH he] at qY; exact ⟨qY.1, qY.2.1⟩
     have yZ := Z0 qY
     have HY := Z0 qG
     have HN := Z0 qH
     have HE := Z0 wS
     have HX := Z0 hx
     have wT := Z0 pC
     have uR := Z0 pS
     have tG := Z0 pF
     have wU : Below w.1.size w wo := qX.out.trans (hB.mono qX.out.size)
     obtain ⟨Wq, N, qI, hN, b1, b2, zA, c0, c1, c2, c3⟩ := Zgy wo wg w x (.slice asx x.items.length csx) (.slice asx x.items.length csx) gg (og + j * 4) wU hB tF rA 107
     have pP : Below wo.1.size wo Wq := by rw [<- qI]; exact (Z9 _ _).alloc (Z1 _) _
     have pN : Below w3.1.size w3 Wq := pT.out.trans (b2.mono pT.out.size)
     obtain ⟨g0, g1, g2, g3⟩ := rA.below hB tF
     have iV : N < Wq.1.size := by rw [<- qI, <- hN, Z6]; omega
     have uS := Z0 qI
     have zB := Z0 hN
     have uT := hL.below pP
     have wV : Wq.1[N]? = some (.cells #[.int .i64 x.lvl, .string x.name, .int .i64 x.up, .slice asx x.items.length csx] 107 (0, 0)) := by rw [<- qI, <- hN]; exact Z02 wo _
     have wW : PkW wg Wq N x (.slice asx x.items.length csx) st.buns st.tras st.cons vb vt vc := ⟨b2, uT, wV⟩
     have uU := Z0 wW
     have wX := Z0 pP
     have pU := Z0 b2
     have zC := Z0 (uP _ Wq b1 (hsv.below b2))
     have iW := Z0 b1
     have iX := Z0 pN
     have iY := Z0 hsv
     have zD : Hid (wg.1.size < Wq.1.size) := uT.lt
     obtain ⟨⟨f0, f1, f2, f3⟩, e0, e1, e2, e3⟩ := pH.out Wq pN
     clear qY qG qH wS pC pS pF wU qI hN pN zA rA qZ hL uT pP uP hsv b1 b2 hx wV wW
     go_upto_region 18 with fail
     rw [uS.out, zB.out]
     obtain ⟨ab, cb, rW⟩ := uU.out.l.b.form
     subst rW
     obtain ⟨z0, z1, z2⟩ := cells3 uU.out.l.cell
     go_wp2_with (first
      | (go_at_call 31; refine zC.out.mono ?_; rintro e w7 ⟨v7, rfl, qO, zE⟩; obtain ⟨L7, uV, uW, wY⟩ := zE; have tH := Z0 (uU.out.below qO); obtain ⟨z0, z1, z2⟩ := cells3 tH.out.l.cell; obtain ⟨L, hL, hLr, hLo⟩ := tH.out.l.b; obtain ⟨zF, zG⟩ := Zig hL uV uR.out)
      | (at_builtin; refine Z4p _ rfl _ _ 48 rfl wg.1.size 67 j0 (.agg #[.int .i64 0, .string ⟨#[]⟩, .slice none 0 0, .int .i64 0]) 4 56 Tryz.underlying48 sY.out.1 sY.out.2.1 sY.out.2.2.1 sY.out.2.2.2 rfl (by decide) _ L.length _ rfl hLo _ _ L7.length _ rfl wY (ZjH uW) (by unfold maxLen; omega) (by omega) (Kc0 tH.out.l.lt) ?_; intro v8 w8 pV pI; have pL := OwnsX.app (ids := fun b : Bun => b.ids) (by decide) hLr (fun p hp => (uW p hp).mono (Kc0 zD.out)) hLo pI pV; (rw [hL, uV, <- uR.out] at pL); obtain ⟨a8, c8, sI⟩ := pL.form; subst sI; obtain ⟨qJ, uX, uY⟩ := tH.out.addB pI pL; have rQ := Z0 qJ; obtain ⟨u0, u1, u2⟩ := cells3 qJ.l.cell; obtain ⟨_, t0, t1, t2, t3⟩ := pH.out _ (pT.out.trans (qJ.b.mono pT.out.size)); clear z0 z1 z2 hLr uW wY hL uV zF zG pL qJ pV e0 e1 e2 e3)
      | (go_at_call 32; refine (Z85 st.buns.length bs.length kb _ (by omega) (by rw [uR.out, ZC]; omega) (by omega) (by omega)).mono ?_; rintro e w10 ⟨v10, rfl, wZ, uZ⟩; obtain ⟨a10, c10, zH, _⟩ := uZ.lies; subst zH; have zI := Z0 (rQ.out.below wZ); have xA := Z0 (uZ.mono rQ.out.b.size); clear uZ wZ))
     obtain ⟨R, hR⟩ : ∃ R, R = Z0V st.buns.length bs.length kb := ⟨_, rfl⟩
     rw [<- hR] at tG xA ⊢
     have pF := tG.out
     have zJ : st.tras.length + R.length = ts.length := by rw [pF, ZC, Z7]
     clear hR pF u0 u1 u2 t0 t1 t2 t3 uX uY pI f0 f1 f2 f3 c0 c1 c2 c3
     go_loopw [86] (fun i wx => ∃ (q : Nat) (vt' : Value), q <= R.length /\ i = .int .i64 q /\ PkW wg wx N x (.slice asx x.items.length csx) bs (st.tras ++ (R.take q).map (Z5e x)) st.cons (.slice a8 bs.length c8) vt' vc /\ OwnsLL wx wg.1.size (.slice a10 R.length c10) R) (fun i _ => R.length - (intOf i).toNat)
     case atStart => exact ⟨0, vt, ZE _, rfl, by rw [Kb5, Kbe, Ka1]; exact zI.out, xA.out⟩
     case round =>
      obtain ⟨wi, sC⟩ : ∃ x, x = wr := ⟨_, rfl⟩
      subst sC
      obtain ⟨q, vt', hq, rfl, hP, pY⟩ := hrel
      have HP := Z0 hP
      have vA := Z0 pY
      by_cases rE : q < R.length
      ·obtain ⟨g10, rfl, iZ, qW⟩ := pY.at (by omega)
       obtain ⟨sl, hs, qK⟩ := qW q rE
       have pE : R.take (q + 1) = R.take q ++ [R[q]] := Z8 rE
       obtain ⟨l, hl⟩ : ∃ l, l = R[q] := ⟨_, rfl⟩
       rw [<- hl] at qK pE
       obtain ⟨al, cl, vB, _⟩ := id qK
       subst vB
       have sT := Z0 pE
       have jA := Z0 qK
       have rF : st.tras ++ (R.take (q + 1)).map (Z5e x) = (st.tras ++ (R.take q).map (Z5e x)) ++ [Z5e x l] := by rw [pE, ZD, Kbc]; rfl
       have sJ : (st.tras ++ (R.take q).map (Z5e x)).length = st.tras.length + q := by rw [ZC, Z7, Kax]; omega
       obtain ⟨tq', rG⟩ : ∃ l, l = st.tras ++ (R.take (q + 1)).map (Z5e x) := ⟨_, rfl⟩
       obtain ⟨tq, rH⟩ : ∃ l, l = st.tras ++ (R.take q).map (Z5e x) := ⟨_, rfl⟩
       rw [<- rG, <- rH] at rF
       rw [<- rH] at sJ hP
       have vC := Z0 rF
       have vD := Z0 rG
       obtain ⟨at', ct', qL⟩ := hP.l.t.form
       subst qL
       obtain ⟨z0, z1, z2⟩ := cells3 hP.l.cell
       obtain ⟨c0, c1, c2, c3⟩ := Z0H hP.n
       have qP := hP.below ((Z9 wi.1.size wi).alloc (Z1 _) (.cells #[.int .i64 x.lvl, .string x.name, .slice al l.length cl] 112))
       obtain ⟨L, hL, hLr, hLo⟩ := qP.l.t
       have zK : L.length = st.tras.length + q := by
        have := Kah List.length hL
        rw [Z7] at this
        omega
       have sK := qK.below ((Z9 wi.1.size wi).alloc (Z1 _) (.cells #[.int .i64 x.lvl, .string x.name, .slice al l.length cl] 112))
       have vE := Z0 sK
       have sL := Z0 qP
       have sM := Z0 hLo
       have vF := Z0 hLr
       have HL := Z0 hL
       have sN := qP.b.size
       have vG := Z0 sN
       have vH : Hid (OwnsLL (wi.alloc (.cells #[.int .i64 x.lvl, .string x.name, .slice al l.length cl] 112)) wg.1.size (.slice (some ⟨g10, 0, none⟩) R.length c10) R) := pY.below ((Z9 wi.1.size wi).alloc (Z1 _) _)
       clear hl qW hP pY qK pE qP sK hLo hLr hL sN rF rG rH sJ
       go_wp2_with (at_builtin; refine wpList_append_own _ rfl _ _ 49 rfl wg.1.size 112 j1 (.agg #[.int .i64 0, .string ⟨#[]⟩, .slice none 0 0]) 3 48 Tryz.underlying49 sZ.out.1 sZ.out.2.1 sZ.out.2.2.1 sZ.out.2.2.2 rfl (by decide) _ L.length _ rfl sM.out ⟨wi.1.size, 0, none⟩ 1 1 [.int .i64 x.lvl, .string x.name, .slice al l.length cl] rfl rfl (Z0f _ _ _) (by simp [Value.oneCell']) (by unfold maxLen; omega) (by omega) vG.out ?_; intro v8 w8 pV pI _; have pL := OwnsX.add (ids := fun t : Tra => t.bs) (x := Z5e x l) HL.out (by decide) vF.out vE.out sM.out pI pV; (rw [<- vC.out] at pL); obtain ⟨a9, c9, sI⟩ := pL.form; subst sI; obtain ⟨qJ, uX, uY⟩ := sL.out.addT pI pL; have rQ := Z0 qJ; have vI := Z0 (sL.out.rowsT pI vH.out (.slice a9 tq'.length c9)); clear pL qJ pV)
       go_roundw
       case rel =>
        refine ⟨q + 1, .slice a9 tq'.length c9, by omega, by go_num, ?_, vI.out⟩
        rw [<- vD.out]
        exact rQ.out
       case measure => simp [intOf]; omega
      ·have vJ : q = R.length := by omega
       subst vJ
       rw [Kat, <- tG.out] at hP HP
       obtain ⟨c0, c1, c2, c3⟩ := Z0H hP.n
       have qF : Below wg.1.size wg wi := hP.b
       clear pY vA hP rE hq zJ
       obtain ⟨av1, cv1, qL⟩ := HP.out.l.t.form
       subst qL
       go_upto_region 26 with fail
       go_cut [117] from 102 to 117 (fun b wx => ∃ c : Bool, b = .bool c /\ (c = true ↔ ¬ Z3f Gs j) /\ Below wi.1.size wi wx)
       case first =>
        by_cases h1 : j + 1 < Gs.length
        ·obtain ⟨gg2, og2, vK, zL, qZ⟩ := RdGrps.lies tE.out (by omega)
         injection vK with vK
         injection vK with zM zN _
         subst zM zN
         obtain ⟨sv2, _, i0, _, _, _⟩ := qZ (j + 1) h1
         replace i0 := (qF.cell (p := ⟨gg, og + (j + 1) * 4, none⟩) zL).trans i0
         have vL : Z3f Gs j ↔ ¬ (Gs[j + 1].lvl = x.lvl) := by
          rw [HE.out]
          constructor
          ·intro h e; exact h ⟨h1, by rw [e, HX.out]⟩
          ·rintro h ⟨h2, h3⟩; exact h (by rw [h3, HX.out])
         obtain ⟨lv2, xB⟩ : ∃ z, z = Gs[j + 1].lvl := ⟨_, rfl⟩
         rw [<- xB] at i0 vL
         have xC := Z0 vL
         have zO : decide ((j : Int) + 1 < (Gs.length : Int)) = true := Kac (by omega)
         have zP : decide (j + 1 < Gs.length) = true := Kac h1
         clear qZ xB vL
         by_cases h2 : lv2 = x.lvl
         ·have pP : (lv2 == x.lvl) = true := by simp [h2]
          have h3 : ¬ Z3f Gs j := fun h => xC.out.1 h h2
          have H3 := Z0 h3
          clear h2 h3
          go_wp2_with fail
          go_quiet (fail)
          go_wp2_with fail
          go_meet
          exact ⟨true, rfl, by simp [H3.out], (by first | exact below_drewN (Z9 _ _) _ | exact (Z9 _ _).drew)⟩
         ·have pP : (lv2 == x.lvl) = false := by simp [h2]
          have h3 : Z3f Gs j := xC.out.2 h2
          have H3 := Z0 h3
          clear h2 h3
          go_wp2_with fail
          go_quiet (fail)
          go_wp2_with fail
          go_meet
          exact ⟨false, rfl, by simp [H3.out], (by first | exact below_drewN (Z9 _ _) _ | exact (Z9 _ _).drew)⟩
        ·have h3 : Z3f Gs j := HE.out.2 (fun ⟨h2, _⟩ => h1 h2)
         have H3 := Z0 h3
         have zO : decide ((j : Int) + 1 < (Gs.length : Int)) = false := Kad (by omega)
         have zP : decide (j + 1 < Gs.length) = false := Kad h1
         clear h3 h1
         go_wp2_with fail
         go_quiet (fail)
         go_wp2_with fail
         go_meet
         exact ⟨false, rfl, by simp [H3.out], (by first | exact below_drewN (Z9 _ _) _ | exact (Z9 _ _).drew)⟩
       case rest =>
        obtain ⟨wk, zQ⟩ : ∃ x, x = wc := ⟨_, rfl⟩
        subst zQ
        obtain ⟨c, rfl, hc, hb⟩ := hcut
        have rR := Z0 (HP.out.below hb)
        clear c0 c1 c2 c3 qF hb
        cases c
        ·have he : Z3f Gs j := Kb6 (fun h => Bool.noConfusion (hc.2 h))
         have hy := HY.out he
         have zR : st.beg <= ts.length := by
          have h1 := tG.out
          have h2 := Kah List.length h1
          rw [ZC] at h2
          omega
         have pR : (st.cons ++ (Z0V st.beg ts.length kt).map (Z7X x)).length <= ps.length := by
          have h1 := yZ.out.2.2.1
          rw [hy] at h1
          exact h1
         have vM := Z0 hy
         have jB := yY.2
         obtain ⟨z0, z1, z2⟩ := cells3 rR.out.l.cell
         obtain ⟨_, t0, t1, t2, t3⟩ := pH.out wk (pT.out.trans (rR.out.b.mono pT.out.size))
         clear hy hc he
         go_wp2_with (go_at_call 32; refine (Z85 st.beg ts.length kt _ (by omega) zR (by omega) (by omega)).mono ?_; rintro e w11 ⟨v11, rfl, xD, vN⟩; obtain ⟨a11, c11, zS, _⟩ := vN.lies; subst zS; have zT := Z0 (rR.out.below xD); have xE := Z0 (vN.mono rR.out.b.size); clear vN xD)
         obtain ⟨R2, xF⟩ : ∃ R, R = Z0V st.beg ts.length kt := ⟨_, rfl⟩
         rw [<- xF] at vM xE pR ⊢
         rw [ZC, Z7] at pR
         clear xF z0 z1 z2 t0 t1 t2 t3
         go_loopw [126] (fun i wx => ∃ (q : Nat) (vc' : Value), q <= R2.length /\ i = .int .i64 q /\ PkW wg wx N x (.slice asx x.items.length csx) bs ts (st.cons ++ (R2.take q).map (Z7X x)) (.slice a8 bs.length c8) (.slice av1 ts.length cv1) vc' /\ OwnsLL wx wg.1.size (.slice a11 R2.length c11) R2) (fun i _ => R2.length - (intOf i).toNat)
         case atStart => exact ⟨0, vc, ZE _, rfl, by rw [Kb5, Kbe, Ka1]; exact zT.out, xE.out⟩
         case round =>
          obtain ⟨wi2, zU⟩ : ∃ x, x = wr := ⟨_, rfl⟩
          subst zU
          obtain ⟨q, vc', hq, rfl, hP, pY⟩ := hrel
          have tI := Z0 hP
          have vA := Z0 pY
          by_cases rE : q < R2.length
          ·obtain ⟨g11, rfl, jC, qW⟩ := pY.at (by omega)
           obtain ⟨sl, hs, qK⟩ := qW q rE
           have pE : R2.take (q + 1) = R2.take q ++ [R2[q]] := Z8 rE
           obtain ⟨l, hl⟩ : ∃ l, l = R2[q] := ⟨_, rfl⟩
           rw [<- hl] at qK pE
           obtain ⟨al, cl, vB, _⟩ := id qK
           subst vB
           have rF : st.cons ++ (R2.take (q + 1)).map (Z7X x) = (st.cons ++ (R2.take q).map (Z7X x)) ++ [Z7X x l] := by rw [pE, ZD, Kbc]; rfl
           have sJ : (st.cons ++ (R2.take q).map (Z7X x)).length = st.cons.length + q := by rw [ZC, Z7, Kax]; omega
           obtain ⟨tq', rG⟩ : ∃ l, l = st.cons ++ (R2.take (q + 1)).map (Z7X x) := ⟨_, rfl⟩
           obtain ⟨tq, rH⟩ : ∃ l, l = st.cons ++ (R2.take q).map (Z7X x) := ⟨_, rfl⟩
           rw [<- rG, <- rH] at rF
           rw [<- rH] at sJ hP
           have vC := Z0 rF
           have vD := Z0 rG
           obtain ⟨at', ct', qL⟩ := hP.l.c.form
           subst qL
           obtain ⟨z0, z1, z2⟩ := cells3 hP.l.cell
           obtain ⟨c0, c1, c2, c3⟩ := Z0H hP.n
           have qP := hP.below ((Z9 wi2.1.size wi2).alloc (Z1 _) (.cells #[.int .i64 x.lvl, .slice al l.length cl] 114))
           obtain ⟨L, hL, hLr, hLo⟩ := qP.l.c
           have zK : L.length = st.cons.length + q := by
            have := Kah List.length hL
            rw [Z7] at this
            omega
           have sK := qK.below ((Z9 wi2.1.size wi2).alloc (Z1 _) (.cells #[.int .i64 x.lvl, .slice al l.length cl] 114))
           have vE := Z0 sK
           have sL := Z0 qP
           have sM := Z0 hLo
           have vF := Z0 hLr
           have HL := Z0 hL
           have sN := qP.b.size
           have vG := Z0 sN
           have vH : Hid (OwnsLL (wi2.alloc (.cells #[.int .i64 x.lvl, .slice al l.length cl] 114)) wg.1.size (.slice (some ⟨g11, 0, none⟩) R2.length c11) R2) := pY.below ((Z9 wi2.1.size wi2).alloc (Z1 _) _)
           clear hl qW hP pY qK pE qP sK hLo hLr hL sN rF rG rH sJ
           go_wp2_with (at_builtin; refine wpList_append_own _ rfl _ _ 50 rfl wg.1.size 114 j2 (.agg #[.int .i64 0, .slice none 0 0]) 2 32 Tryz.underlying50 tA.out.1 tA.out.2.1 tA.out.2.2.1 tA.out.2.2.2 rfl (by decide) _ L.length _ rfl sM.out ⟨wi2.1.size, 0, none⟩ 1 1 [.int .i64 x.lvl, .slice al l.length cl] rfl rfl (Z0f _ _ _) (by simp [Value.oneCell']) (by unfold maxLen; omega) (by omega) vG.out ?_; intro v8 w8 pV pI _; have pL := OwnsX.add (ids := fun t : Con => t.ts) (x := Z7X x l) HL.out (by decide) vF.out vE.out sM.out pI pV; (rw [<- vC.out] at pL); obtain ⟨a9, c9, sI⟩ := pL.form; subst sI; obtain ⟨qJ, uX, uY⟩ := sL.out.addC pI pL; have rQ := Z0 qJ; have vI := Z0 (sL.out.rowsC pI vH.out (.slice a9 tq'.length c9)); clear pL qJ pV)
           go_roundw
           case rel =>
            refine ⟨q + 1, .slice a9 tq'.length c9, by omega, by go_num, ?_, vI.out⟩
            rw [<- vD.out]
            exact rQ.out
           case measure => simp [intOf]; omega
          ·have vJ : q = R2.length := by omega
           subst vJ
           rw [Kat] at tI
           obtain ⟨z0, z1, z2⟩ := cells3 tI.out.l.cell
           clear pY vA hP rE hq
           go_wp2_with fail
           go_roundw
           case rel =>
            refine ⟨j + 1, .slice a8 bs.length c8, .slice av1 ts.length cv1, vc', by omega, by go_num, by rw [vM.out], tI.out.b, ?_⟩
            rw [vM.out]
            exact tI.out.l
           case measure => simp [intOf]; omega
        ·have hn := HN.out (hc.1 rfl)
         have qB := Z0 hn
         clear hc hn
         go_wp2_with fail
         go_roundw
         case rel =>
          refine ⟨j + 1, .slice a8 bs.length c8, .slice av1 ts.length cv1, vc, by omega, by go_num, by rw [qB.out], rR.out.b, ?_⟩
          rw [qB.out]
          exact rR.out.l
         case measure => simp [intOf]; omega
    ·obtain rfl : j = Gs.length := by omega
     obtain ⟨ab, cb, rW⟩ := hL.b.form
     obtain ⟨at', ct, qL⟩ := hL.t.form
     obtain ⟨ac, cc, uA⟩ := hL.c.form
     have HL := Z0 hL
     have qQ : Below w3.1.size w3 wo := pT.out.trans (hB.mono pT.out.size)
     have pW : Below w.1.size w wo := pD.out.trans (qQ.mono pD.out.size)
     subst rW qL uA
     obtain ⟨z0, z1, z2⟩ := cells3 hL.cell
     have vO := yW.out wo qQ
     obtain ⟨c0, c1, c2⟩ := cells3 vO
     have f0 := uM.out wo qQ 0
     have f1 := uM.out wo qQ 1
     have f2 := uM.out wo qQ 2
     have tJ := Z0 vO
     have pM := Z0 pW
     have vP := qX.out.size
     clear hL vO qQ pW
     go_wp2_with fail
     refine bodyPost_ret (Z68 rfl _ _ (w.1.size + 1 + 1) 52 _ (0, 0) _ (.int .i64 0) rfl rfl (ZiY tJ.out) Tryz.underlying52 rfl (by kernel_rfl)) rfl ?_
     exact ⟨_, _, _, rfl, ((pM.out.setCell (p := ⟨w.1.size + 1 + 1, 0, none⟩) (Kbr _ 2) _).setCell (p := ⟨w.1.size + 1 + 1, 1, none⟩) (Kbr _ 2) _).setCell (p := ⟨w.1.size + 1 + 1, 2, none⟩) (Kbr _ 2) _,
      (Z96 HL.out.b (by decide) tJ.out).mono vP, (Z96 HL.out.t (by decide) tJ.out).mono vP, (Z96 HL.out.c (by decide) tJ.out).mono vP⟩
theorem IsB.true {v : Value} {P : Prop} (h : IsB v P) (hp : P) : v = .bool .true := by
 obtain ⟨r, rfl, hr⟩ := h
 rw [hr.2 hp]
theorem IsB.false {v : Value} {P : Prop} (h : IsB v P) (hp : ¬ P) : v = .bool .false := by
 obtain ⟨r, rfl, hr⟩ := h
 cases r
 ·rfl
 ·exact absurd (hr.1 rfl) hp
theorem Tryz.infoSt : (Tryz.prog.info? 9).map (fun i => (i.zero, i.size, i.bytes)) = some (some (.string ⟨#[]⟩), 1, 16) := by kernel_rfl
def StrsAt (w : World) (g : Nat) (xs : List ByteArray) : Prop := w.1[g]? = some (.cells (xs.map Value.string).toArray 9 (0, 0))
theorem StrsAt.lt {w : World} {g : Nat} {xs : List ByteArray} (h : StrsAt w g xs) : g < w.1.size := (Z5.1 h).1
theorem StrsAt.below {w w' : World} {g B : Nat} {xs : List ByteArray} (h : StrsAt w g xs) (hb : Below B w w') (hg : g < B) : StrsAt w' g xs := (hb.block g hg).trans h
theorem StrsAt.free {w : World} {g : Nat} {xs : List ByteArray} (h : StrsAt w g xs) (i : Nat) : w.frozen? ⟨g, i, none⟩ = .false := by
 unfold StrsAt at h
 simp [World.frozen?, h]
theorem StrsAt.cell {w : World} {g : Nat} {xs : List ByteArray} (h : StrsAt w g xs) {i : Nat} (hi : i < xs.length) : w.cell? ⟨g, i, none⟩ = some (.string xs[i]) := by
 unfold StrsAt at h
 simp [World.cell?, h, hi]
theorem StrsAt.set {w : World} {g : Nat} {xs : List ByteArray} (h : StrsAt w g xs) (i : Nat) (x : ByteArray) : StrsAt (w.setCell ⟨g, i, none⟩ (.string x)) g (xs.set i x) := by
 have hl := h.lt
 unfold StrsAt at *
 simp only [World.setCell, Kap, if_pos, h, Option.map_some, List.map_set]
 simp
theorem StrsAt.rd {w : World} {g : Nat} {xs : List ByteArray} (h : StrsAt w g xs) (cap : Nat) : ReadsT w (.slice (some ⟨g, 0, none⟩) xs.length cap) xs :=
 ⟨_, cap, rfl, fun _ => ⟨g, 0, rfl, h.lt, fun i hi => by rw [Ka0]; exact h.cell hi⟩⟩
theorem ZfH (w : World) (n : Nat) : StrsAt (w.alloc (.cells (madeCells #[Value.string ⟨#[]⟩] n) 9)) w.1.size (List.replicate n noB) := by
 have e : madeCells #[Value.string ⟨#[]⟩] n = ((List.replicate n noB).map Value.string).toArray := by
  apply Array.toList_inj.1
  rw [toList_madeCells_one]
  simp [noB]
 unfold StrsAt
 rw [e]
 exact Z02 w _
theorem Zi8 {ls : List Lev} {m : Mai} (h : HasPlan ls m) (v vp vz vb vt vc : Value) (zs : List Int) (k : Pck) (l : Lod) (w : World) (hr : RdLevs w v ls) (qC : RdPces w vp m.ps) (hz : RdInts w vz zs) (pK : zs.length = m.ps.length) (hn : Z1j ls.length zs = true) (hA : Zb3 ls m zs k = 0)
 (tK : RdLod w vb vt vc l) (hs : SmallL l) (hid : ∀ b ∈ l.buns, ∀ i ∈ b.ids, 0 <= i /\ i <= 999999) :
 Calls Tryz.prog 37 #[v, Z2r m vp, vz, Z4J k, Zeh vb vt vc] w fun e w' => ∃ u, e = .returned (.tuple #[u, .int .i64 0]) /\ Below w.1.size w w' /\
  IsB u (LodOk k m.ps zs (Z6n zs (Z16 ls (Z07 m.ps) ls.length) m.ps.length (Z16 ls (Z07 m.ps) ls.length).length) l) := by
 have rK := h.few
 have yT := Z0y h.right
 have uJ := h.groups_few
 obtain ⟨qV, sE⟩ := Z9b h.mail
 have pR : (Z07 m.ps).length = m.ps.length := Z1G _
 have hG : GrpsIn m.ps (Z16 ls (Z07 m.ps) ls.length) := ZbS pR
 have qT := Z0 (fun W (hW : Below w.1.size w W) => Z7E ls v vp vz m zs k W (hr.below hW) (Z1A h.right) (by omega) (qC.below hW) h.rng h.org (by omega) (fun p hp => by have := Z0w ((Z1Q h.mail).2 p hp); unfold maxLen; omega) (hz.below hW) (by omega))
 rw [hA] at qT
 have sF := Z0 (fun W (hW : Below w.1.size w W) => Z7p h (hr.below hW) (qC.below hW))
 have rC : ∀ x ∈ Z16 ls (Z07 m.ps) ls.length, x.items.length <= 2000 /\ ∀ i ∈ x.items, 0 <= i /\ i.toNat < m.ps.length := fun x hx => by
  refine ⟨?_, (hG.items x hx).2⟩
  obtain ⟨mm, n, _, _, rfl⟩ := Z2b.1 hx
  have := Z7g ls (Z07 m.ps) mm n
  show (itm ls (Z07 m.ps) mm n).length <= 2000
  omega
 obtain ⟨Gs, rD⟩ : ∃ Gs, Gs = Z16 ls (Z07 m.ps) ls.length := ⟨_, rfl⟩
 rw [<- rD] at uJ sF rC ⊢
 have rB := Z99 zs Gs m.ps.length Gs.length (Z1 _)
 have rS := Z0 (fun W vn (hW : Below w.1.size w W) (hn : ReadsT W vn (Z6n zs Gs m.ps.length Gs.length)) => Z6b k l m zs (Z6n zs Gs m.ps.length Gs.length) vp vz vn vb vt vc W (qC.below hW) (hz.below hW) hn (tK.below hW) hs sE rK pK rB (fun p hp => by have := qV p hp; omega) hid)
 have tL := Z0 (fun W (hW : Below w.1.size w W) => Z7P k l vb vt vc W (tK.below hW) hs)
 have vQ := Z0 (fun W (hW : Below w.1.size w W) => Z4l k l vb vt vc W (tK.below hW) hs)
 have xG := Z0 (fun q (hq : q < Gs.length) => Zae zs Gs m.ps.length hq)
 have sB := Z0 (fun q (hq : q <= Gs.length) => Z99 zs Gs m.ps.length q hq)
 have xH : Hid (Z6n zs Gs m.ps.length 0 = List.replicate m.ps.length noB) := Z0 rfl
 have qM : BunsOk k m.ps zs (Z6n zs Gs m.ps.length Gs.length) l.buns -> TrasOk k l -> ConsOk k l -> LodOk k m.ps zs (Z6n zs Gs m.ps.length Gs.length) l := fun a b c => ⟨a, b, c⟩
 have tM : LodOk k m.ps zs (Z6n zs Gs m.ps.length Gs.length) l -> BunsOk k m.ps zs (Z6n zs Gs m.ps.length Gs.length) l.buns := fun a => a.buns
 have tN : LodOk k m.ps zs (Z6n zs Gs m.ps.length Gs.length) l -> TrasOk k l := fun a => a.tras
 have tO : LodOk k m.ps zs (Z6n zs Gs m.ps.length Gs.length) l -> ConsOk k l := fun a => a.cons
 obtain ⟨PB, xI⟩ : ∃ P, P = BunsOk k m.ps zs (Z6n zs Gs m.ps.length Gs.length) l.buns := ⟨_, rfl⟩
 obtain ⟨PT, xJ⟩ : ∃ P, P = TrasOk k l := ⟨_, rfl⟩
 obtain ⟨PC, xK⟩ : ∃ P, P = ConsOk k l := ⟨_, rfl⟩
 obtain ⟨PL, xL⟩ : ∃ P, P = LodOk k m.ps zs (Z6n zs Gs m.ps.length Gs.length) l := ⟨_, rfl⟩
 rw [<- xI] at rS qM tM
 rw [<- xJ] at tL qM tN
 rw [<- xK] at vQ qM tO
 rw [<- xL] at qM tM tN tO ⊢
 have HZ := Z0 hz
 obtain ⟨az, cz, rfl, xM⟩ := hz
 obtain ⟨av, cv, rfl, _⟩ := qC
 have zV := Z0 xM
 have zW := Z0 rC
 have zX := Z0 pK
 have rL := Z0 (And.intro qM (And.intro tM (And.intro tN tO)))
 obtain ⟨nmF, xN⟩ : ∃ f : Nat -> List ByteArray, f = Z6n zs Gs m.ps.length := ⟨_, rfl⟩
 rw [<- xN] at rS xG sB xH
 clear pR hG qV sE hr tK hs hid hn hA h xM qM tM tN tO xI xJ xK xL xN rC rD rB pK
 unfold Z2r Z4J Zeh at *
 obtain ⟨kp, kg, kb, kt⟩ := k
 obtain ⟨cls, ctr, org, ps⟩ := m
 dsimp only at *
 obtain ⟨w3, pX⟩ : ∃ w3, w3 = ((w.alloc (.cells #[.int .u8 cls, .int .u8 ctr, .string org, .slice av ps.length cv] 34)).alloc (.cells #[.int .i64 kp, .int .i64 kg, .int .i64 kb, .int .i64 kt] 37)).alloc (.cells #[vb, vt, vc] 52) := ⟨_, rfl⟩
 obtain ⟨g1, g2, g3⟩ := ZaU pX
 have tD : w3.1.size = w.1.size + 1 + 1 + 1 := by rw [pX, Z6, Z6, Z6]
 have pN : Below w.1.size w w3 := by
  rw [pX]
  exact (((Z9 _ w).alloc (Z1 _) _).alloc (by simp) _).alloc (by simp; omega) _
 have pH := Z0 (fun (W : World) (hB : Below w3.1.size w3 W) => And.intro (Z0H ((hB.block _ (by omega)).trans g1)) (And.intro (Z0H ((hB.block _ (by omega)).trans g2)) (cells3 ((hB.block _ (by omega)).trans g3))))
 have uN := Z0 pX
 have pD := Z0 pN
 clear pX pN tD g1 g2 g3
 obtain ⟨⟨x0, x1, x2, x3⟩, ⟨y0, y1, y2, y3⟩, _⟩ := pH.out w3 (Z9 _ _)
 go_enter Tryz.func37, Tryz.ntmps37
 go_upto_region 1 with fail
 rw [<- uN.out]
 go_upto_region 7 with (first
  | (go_at_call 29; refine (qT.out _ pD.out).mono ?_; rintro e w4 ⟨rfl, qN⟩; obtain ⟨⟨p0, p1, p2, p3⟩, ⟨q0, q1, q2, q3⟩, _⟩ := pH.out w4 qN; have tP := pD.out.trans (qN.mono pD.out.size))
  | (go_at_call 30; refine (sF.out _ tP).mono ?_; rintro e wg ⟨ag, cg, rfl, qF, sH⟩; have pT := Z0 (qN.trans (qF.mono qN.size)); have qX := Z0 (tP.trans (qF.mono tP.size)); have tE := Z0 sH; clear qF sH))
 clear p0 p1 p2 p3 q0 q1 q2 q3 qN tP x0 x1 x2 x3 y0 y1 y2 y3
 obtain ⟨⟨x0, x1, x2, x3⟩, _, _⟩ := pH.out wg pT.out
 have zY := fun W => run_make_row' (P := Tryz.prog) 84 9 (.string ⟨#[]⟩) 16 Tryz.underlying84 Tryz.infoSt rfl .i64 .i64 ps.length (by omega) (by omega) W
 obtain ⟨w5, tQ⟩ : ∃ w5, w5 = wg.alloc (.cells (madeCells #[Value.string ⟨#[]⟩] ps.length) 9) := ⟨_, rfl⟩
 have pC : StrsAt w5 wg.1.size (nmF 0) := by rw [tQ, xH.out]; exact ZfH wg ps.length
 have xO : Below wg.1.size wg w5 := by rw [tQ]; exact (Z9 _ _).alloc (Z1 _) _
 have wT := Z0 pC
 have zZ := Z0 xO
 have iA := Z0 tQ
 clear pC xO tQ
 go_upto_region 8 with fail
 rw [<- iA.out]
 clear zY x0 x1 x2 x3
 go_wp2_with fail
 go_loopw [43] (fun i wx => ∃ j : Nat, j <= Gs.length /\ i = .int .i64 j /\ Below wg.1.size wg wx /\ StrsAt wx wg.1.size (nmF j)) (fun i _ => Gs.length - (intOf i).toNat)
 case atStart => exact ⟨0, ZE _, rfl, zZ.out, wT.out⟩
 case round =>
  obtain ⟨wo, pW⟩ : ∃ x, x = wr := ⟨_, rfl⟩
  subst pW
  obtain ⟨j, hj, rfl, hB, hS⟩ := hrel
  have HB := Z0 hB
  have HS := Z0 hS
  by_cases pA : j < Gs.length
  ·obtain ⟨gg, og, rfl, tF, qZ⟩ := RdGrps.lies tE.out (by omega)
   obtain ⟨sv, hsv, rA⟩ := qZ j pA
   have rT := xG.out j pA
   have rB := sB.out j hj
   obtain ⟨iB, hit⟩ := zW.out _ (Z4 pA)
   obtain ⟨x, hx⟩ : ∃ x, x = Gs[j] := ⟨_, rfl⟩
   rw [<- hx] at hsv rA rT iB hit
   have iC := hsv.below hB
   obtain ⟨asx, csx, uQ, xP⟩ := id hsv
   subst uQ
   obtain ⟨g0, g1, g2, g3⟩ := rA.below hB tF
   obtain ⟨Wq, qI⟩ : ∃ W, W = wo.alloc (.cells #[.int .i64 x.lvl, .string x.name, .int .i64 x.up, .slice asx x.items.length csx] 107) := ⟨_, rfl⟩
   have pP : Below wo.1.size wo Wq := by rw [qI]; exact (Z9 _ _).alloc (Z1 _) _
   have vR : Wq.1[wo.1.size]? = some (.cells #[.int .i64 x.lvl, .string x.name, .int .i64 x.up, .slice asx x.items.length csx] 107 (0, 0)) := by rw [qI]; exact Z02 wo _
   have uS := Z0 qI
   have iD := Z0 vR
   have wX := Z0 (hB.trans (pP.mono hB.size))
   have iE := Z0 (hS.below pP hS.lt)
   have iF : Hid (wo.1.size ≠ wg.1.size) := Z0 (fun e => by have := hS.lt; omega)
   have iG := Z0 xP
   have iH := Z0 hit
   have iI := Z0 rT
   have iJ := Z0 rB
   obtain ⟨n0, n1, n2, n3⟩ := Z0H vR
   clear hx qZ rA iC qI pP vR rT rB hit xP hS hB hsv
   go_upto_region 11 with fail
   rw [<- uS.out]
   go_wp2_with fail
   go_loopw [50] (fun i wx => ∃ p : Nat, p <= x.items.length /\ i = .int .i64 p /\ Below wg.1.size wg wx /\ wx.1[wo.1.size]? = some (.cells #[.int .i64 x.lvl, .string x.name, .int .i64 x.up, .slice asx x.items.length csx] 107 (0, 0)) /\ StrsAt wx wg.1.size (nmI zs x (nmF j) (x.items.take p))) (fun i _ => x.items.length - (intOf i).toNat)
   case atStart => exact ⟨0, ZE _, rfl, wX.out, iD.out, iE.out⟩
   case round =>
    clear n0 n1 n2 n3 g0 g1 g2 g3
    obtain ⟨wi, sC⟩ : ∃ x, x = wr := ⟨_, rfl⟩
    subst sC
    obtain ⟨p, hp, rfl, sO, tR, rU⟩ := hrel
    have sP := Z0 sO
    have tS := Z0 tR
    by_cases qU : p < x.items.length
    ·obtain ⟨gs, os, rfl, uG, sD⟩ := iG.out (by omega)
     have e1 := (sO.cell (p := ⟨gs, os + p, none⟩) uG).trans (sD p qU)
     obtain ⟨i0, i1⟩ := iH.out _ (Z4 qU)
     have pE : x.items.take (p + 1) = x.items.take p ++ [x.items[p]] := Z8 qU
     have qR := ZhF zs x (nmF j) (x.items.take p) x.items[p]
     rw [<- pE] at qR
     obtain ⟨it, xQ⟩ : ∃ it, it = x.items[p] := ⟨_, rfl⟩
     rw [<- xQ] at e1 i0 i1 qR
     obtain ⟨q, rfl⟩ : ∃ q : Nat, it = (q : Int) := ⟨it.toNat, (Ka3 i0).symm⟩
     rw [Kar] at i1
     unfold Z5X at qR
     rw [Kar] at qR
     have xR : q < zs.length := by rw [zX.out]; exact i1
     obtain ⟨gz, oz, rfl, iK, xS⟩ := zV.out (by omega)
     have e2 := ((qX.out.trans (sO.mono qX.out.size)).cell (p := ⟨gz, oz + q, none⟩) iK).trans (xS q xR)
     have xT : zs.getD q (-1) = zs[q] := by rw [Z2, Z3 xR]; rfl
     rw [xT] at qR
     obtain ⟨z, xU⟩ : ∃ z, z = zs[q] := ⟨_, rfl⟩
     rw [<- xU] at qR e2
     have vS : q < (nmI zs x (nmF j) (x.items.take p)).length := by rw [Zbw, iJ.out]; exact i1
     obtain ⟨ns, rT⟩ : ∃ ns, ns = nmI zs x (nmF j) (x.items.take p) := ⟨_, rfl⟩
     rw [<- rT] at qR rU vS
     have xV := Z0 qR
     have rV := Z0 rU
     have iL := Z0 vS
     obtain ⟨n0, n1, n2, n3⟩ := Z0H tR
     clear sD pE qR xQ xS xT xU rT vS tR sO rU
     by_cases pK : z = x.lvl
     ·have pP : (z == x.lvl) = .true := by simp [pK]
      have pC := xV.out
      rw [if_pos pK] at pC
      have vT := Z0 pC
      clear pC pK
      go_wp2_with fail
      go_quiet (fail)
      obtain ⟨wd, rI⟩ : ∃ wd, wd = wi.drewN nq := ⟨_, rfl⟩
      rw [<- rI]
      have qS : Below wi.1.size wi wd := by rw [rI]; exact below_drewN (Z9 _ _) _
      have tT := rV.out.below qS rV.out.lt
      have vU := (qS.block _ (Z5.1 tS.out).1).trans tS.out
      have c1 := tT.cell iL.out
      have c2 := tT.free q
      obtain ⟨n0, n1, n2, n3⟩ := Z0H vU
      have vV := Z0 tT
      have vW := Z0 vU
      have vX := Z0 (sP.out.trans (qS.mono sP.out.size))
      clear rI qS tT vU e1 e2
      go_wp2_with fail
      go_roundw
      case rel =>
       refine ⟨p + 1, by omega, by go_num, vX.out.setCell (p := ⟨wg.1.size, q, none⟩) (Z1 _) _, (Z4y iF.out).trans vW.out, ?_⟩
       rw [vT.out]
       exact vV.out.set q _
      case measure => simp [intOf]; omega
     ·have pP : (z == x.lvl) = .false := by simp [pK]
      have pC := xV.out
      rw [if_neg pK] at pC
      have vT := Z0 pC
      clear pC pK
      go_wp2_with fail
      go_quiet (fail)
      obtain ⟨wd, rI⟩ : ∃ wd, wd = wi.drewN nq := ⟨_, rfl⟩
      rw [<- rI]
      have qS : Below wi.1.size wi wd := by rw [rI]; exact below_drewN (Z9 _ _) _
      have vV := Z0 (rV.out.below qS rV.out.lt)
      have vW := Z0 ((qS.block _ (Z5.1 tS.out).1).trans tS.out)
      have vX := Z0 (sP.out.trans (qS.mono sP.out.size))
      clear rI qS e1 e2
      go_wp2_with fail
      go_roundw
      case rel =>
       refine ⟨p + 1, by omega, by go_num, vX.out, vW.out, ?_⟩
       rw [vT.out]
       exact vV.out
      case measure => simp [intOf]; omega
    ·obtain rfl : p = x.items.length := by omega
     rw [Kat] at rU
     have rV := Z0 rU
     clear rU sO tR
     go_wp2_with fail
     go_roundw
     case rel => exact ⟨j + 1, by omega, by go_num, sP.out, by rw [iI.out]; exact rV.out⟩
     case measure => simp [intOf]; omega
  ·obtain rfl : j = Gs.length := by omega
   have pW : Below w.1.size w wo := qX.out.trans (hB.mono qX.out.size)
   have qQ : Below w3.1.size w3 wo := pT.out.trans (hB.mono pT.out.size)
   have rB := sB.out Gs.length (Z1 _)
   have vY := hS.rd ps.length
   rw [rB] at vY
   have pM := Z0 pW
   have pZ := Z0 qQ
   have tU := Z0 vY
   clear hS rB vY pW qQ hB hj pA
   go_upto_region 18 with fail
   obtain ⟨⟨p0, p1, p2, p3⟩, ⟨q0, q1, q2, q3⟩, r0, r1, r2⟩ := pH.out wo pZ.out
   by_cases hb : PB
   ·have tV := Z0 hb
    clear hb
    by_cases ht : PT
    ·have sQ := Z0 ht
     clear ht
     by_cases hc : PC
     ·have hy : PL := rL.out.1 tV.out sQ.out hc
      have sG := Z0 hc
      have HY := Z0 hy
      clear hc hy
      go_wp2_with (first
       | (go_at_call 77; refine (rS.out wo _ pM.out tU.out).mono ?_; rintro e w6 ⟨u, rfl, pJ, hu⟩; have hu := hu.true tV.out; subst hu; have qA := pM.out.trans (pJ.mono pM.out.size); obtain ⟨_, ⟨s0, s1, s2, s3⟩, t0, t1, t2⟩ := pH.out w6 (pZ.out.trans (pJ.mono pZ.out.size)))
       | (go_at_call 78; refine (tL.out w6 qA).mono ?_; rintro e w7 ⟨u, rfl, qO, hu⟩; have hu := hu.true sQ.out; subst hu; have rJ := qA.trans (qO.mono qA.size); have vZ := pZ.out.trans ((pJ.trans (qO.mono pJ.size)).mono pZ.out.size); obtain ⟨_, ⟨o0, o1, o2, o3⟩, v0, v1, v2⟩ := pH.out w7 vZ)
       | (go_at_call 79; refine (vQ.out w7 rJ).mono ?_; rintro e w8 ⟨u, rfl, wA, hu⟩; have hu := hu.true sG.out; subst hu))
      go_ret2
      exact ⟨_, rfl, rJ.trans (wA.mono rJ.size), IsB.yes HY.out⟩
     ·have pG : ¬ PL := fun h => hc (rL.out.2.2.2 h)
      have sG := Z0 hc
      have qB := Z0 pG
      clear hc pG
      go_wp2_with (first
       | (go_at_call 77; refine (rS.out wo _ pM.out tU.out).mono ?_; rintro e w6 ⟨u, rfl, pJ, hu⟩; have hu := hu.true tV.out; subst hu; have qA := pM.out.trans (pJ.mono pM.out.size); obtain ⟨_, ⟨s0, s1, s2, s3⟩, t0, t1, t2⟩ := pH.out w6 (pZ.out.trans (pJ.mono pZ.out.size)))
       | (go_at_call 78; refine (tL.out w6 qA).mono ?_; rintro e w7 ⟨u, rfl, qO, hu⟩; have hu := hu.true sQ.out; subst hu; have rJ := qA.trans (qO.mono qA.size); have vZ := pZ.out.trans ((pJ.trans (qO.mono pJ.size)).mono pZ.out.size); obtain ⟨_, ⟨o0, o1, o2, o3⟩, v0, v1, v2⟩ := pH.out w7 vZ)
       | (go_at_call 79; refine (vQ.out w7 rJ).mono ?_; rintro e w8 ⟨u, rfl, wA, hu⟩; have hu := hu.false sG.out; subst hu))
      go_ret2
      exact ⟨_, rfl, rJ.trans (wA.mono rJ.size), IsB.no qB.out⟩
    ·have pG : ¬ PL := fun h => ht (rL.out.2.2.1 h)
     have sQ := Z0 ht
     have qB := Z0 pG
     clear ht pG
     go_wp2_with (first
      | (go_at_call 77; refine (rS.out wo _ pM.out tU.out).mono ?_; rintro e w6 ⟨u, rfl, pJ, hu⟩; have hu := hu.true tV.out; subst hu; have qA := pM.out.trans (pJ.mono pM.out.size); obtain ⟨_, ⟨s0, s1, s2, s3⟩, t0, t1, t2⟩ := pH.out w6 (pZ.out.trans (pJ.mono pZ.out.size)))
      | (go_at_call 78; refine (tL.out w6 qA).mono ?_; rintro e w7 ⟨u, rfl, qO, hu⟩; have hu := hu.false sQ.out; subst hu))
     go_ret2
     exact ⟨_, rfl, qA.trans (qO.mono qA.size), IsB.no qB.out⟩
   ·have iM := Z0 hb
    have pG : ¬ PL := fun h => hb (rL.out.2.1 h)
    have qB := Z0 pG
    clear hb pG
    go_wp2_with (go_at_call 77; refine (rS.out wo _ pM.out tU.out).mono ?_; rintro e w6 ⟨u, rfl, pJ, hu⟩; have hu := hu.false iM.out; subst hu)
    go_ret2
    exact ⟨_, rfl, Z01 pM.out pM.out.size pJ, IsB.no qB.out⟩
end
section
open Go.RowKit
noncomputable def ZfL (k : Pck) (ps : List Pce) (zs : List Int) (Gs : List Grp) : Lod := ⟨(Z29 k ps zs Gs Gs.length).buns, (Z29 k ps zs Gs Gs.length).tras, (Z29 k ps zs Gs Gs.length).cons⟩
structure Pkd (k : Pck) (ps : List Pce) (zs : List Int) (ns : List ByteArray) (l : Lod) : Prop where
 ok : LodOk k ps zs ns l
 ord : l.buns.Pairwise BunLe
 own : ∀ b ∈ l.buns, b.ids ≠ [] /\ b.ids.Pairwise (· < ·) /\ ∀ i ∈ b.ids, 0 < i /\ i <= 999999
 nb : l.tras.flatMap (fun t => t.bs) = Z0W 0 l.buns.length
 nt : l.cons.flatMap (fun c => c.ts) = Z0W 0 l.tras.length
 bf : ∀ a b, Z24 l.buns a b -> a.lvl = b.lvl -> a.grp = b.grp -> ∃ i : Int, 0 <= i /\ i.toNat < ps.length /\ b.ids.head? = some (Z15 ps i).id /\ ¬ ((a.ids.length : Int) < k.pieces /\ a.grams + (Z15 ps i).grams <= k.grams)
 tf : ∀ a b, Z24 l.tras a b -> a.lvl = b.lvl -> a.grp = b.grp -> (a.bs.length : Int) = k.bundles
 cf : ∀ a b, Z24 l.cons a b -> a.lvl = b.lvl -> (a.ts.length : Int) = k.trays
 lens : l.buns.length <= ps.length /\ l.tras.length <= ps.length /\ l.cons.length <= ps.length
 idn : (l.buns.flatMap (fun b => b.ids)).length = ps.length
theorem Zfg {ps : List Pce} {i : Int} (h : i.toNat < ps.length) : Z15 ps i ∈ ps := by
 unfold Z15
 rw [Z2, Z3 h]
 exact Z4 h
theorem Zcu {ls : List Lev} {m : Mai} (h : HasPlan ls m) {zs : List Int} (pK : zs.length = m.ps.length) (hn : Z1j ls.length zs = true) {k : Pck} (hk : Z7K k = true) (qD : ∀ p ∈ m.ps, p.grams <= k.grams) :
 Pkd k m.ps zs (Z6n zs (Z16 ls (Z07 m.ps) ls.length) m.ps.length (Z16 ls (Z07 m.ps) ls.length).length) (ZfL k m.ps zs (Z16 ls (Z07 m.ps) ls.length)) := by
 obtain ⟨qV, hu⟩ := Z9b h.mail
 have pR : (Z07 m.ps).length = m.ps.length := Z1G _
 have hG : GrpsIn m.ps (Z16 ls (Z07 m.ps) ls.length) := ZbS pR
 have hO : OwnIn m.ps zs (Z16 ls (Z07 m.ps) ls.length) := ZcT pR pK hn
 have qE : (1 <= k.pieces /\ k.pieces <= 2000 /\ 1 <= k.grams /\ k.grams <= 1000000) /\ (1 <= k.bundles /\ k.bundles <= 200 /\ 1 <= k.trays /\ k.trays <= 200) := by
  unfold Z7K at hk
  rw [ZF, Kab, Kab] at hk
  exact hk
 obtain ⟨Gs, rD⟩ : ∃ Gs, Gs = Z16 ls (Z07 m.ps) ls.length := ⟨_, rfl⟩
 rw [<- rD] at hG hO ⊢
 have rP : 1 <= k.pieces := qE.1.1
 have sR : 0 <= k.grams := by omega
 have tW : 1 <= k.bundles := qE.2.1
 have tX : 1 <= k.trays := by omega
 have tY := Zfc tW tX m.ps zs Gs Gs.length (Z1 _)
 have hF := Z95 tW tX hG.order (ps := m.ps) (zs := zs) Gs.length (Z1 _)
 have hl := Zht rP sR tW tX qD hu hG hO
 have hs := Zcv rP sR tW tX qD hu hG hO Gs.length (Z1 _)
 have tZ := tY.buns
 rw [Kat] at tZ
 have iN := tY.fin (.inr (fun h => absurd h (Kdg _)))
 refine ⟨hl, ?_, ?_, tY.nb, ?_, ?_, hF.tf, hF.cf, ⟨hs.1, hs.2.1, hs.2.2.1⟩, hl.buns.all⟩
 ·show (Z29 k m.ps zs Gs Gs.length).buns.Pairwise BunLe
  rw [tZ]
  exact Zeb rP sR qD hu hG
 ·show ∀ b ∈ (Z29 k m.ps zs Gs Gs.length).buns, _
  intro b hb
  obtain ⟨I, hI, hid, _⟩ := hl.buns.good b hb
  rw [tZ] at hb
  obtain ⟨x, hx, hb⟩ := Ka5.1 hb
  have h2 := (Z2q (zs := zs) rP sR qD hu hG hx).2 b hb
  refine ⟨h2.2.2.1, h2.2.2.2.2.2, fun i hi => ?_⟩
  rw [hid] at hi
  obtain ⟨j, hj, rfl⟩ := Kae.1 hi
  have := qV _ (Zfg (hI j hj).2.1)
  exact ⟨this.1, this.2.1⟩
 ·show (Z29 k m.ps zs Gs Gs.length).cons.flatMap _ = Z0W 0 (Z29 k m.ps zs Gs Gs.length).tras.length
  rw [tY.nt, iN]
 ·show ∀ a b, Z24 (Z29 k m.ps zs Gs Gs.length).buns a b -> _
  rw [tZ]
  intro a b iO h1 h2
  exact Zgs rP sR qD hu hG iO h1 h2
theorem Pkd.smallL {k : Pck} {ps : List Pce} {zs : List Int} {ns : List ByteArray} {l : Lod} (h : Pkd k ps zs ns l) (hp : ps.length <= 100000) : SmallL l := by
 obtain ⟨h1, h2, h3⟩ := h.lens
 refine ⟨by omega, by omega, by omega, by rw [h.idn]; exact hp, ?_, ?_⟩
 ·rw [h.nb, Z1f]; omega
 ·rw [h.nt, Z1f]; omega
end
end Go.Proofs.YtlgajongmkhcnaaGreatDoor
