import Derived.Test.YtlgajongmkhcnaaGreatDoorQZ
import Derived.Test.YtlgajongmkhcnaaGreatDoorQG
import Derived.BigQuiet
set_option linter.unusedVariables false
set_option linter.unusedSimpArgs false
set_option maxHeartbeats 32000000
namespace Go.Proofs.YtlgajongmkhcnaaGreatDoor
open Go.RowKit Go.Sort
set_option maxRecDepth 100000
theorem Zht {w : World} {g : Nat} {a b : Value} {t : TypeId} {fr : Nat × Nat} (h : w.1[g]? = some (.cells #[a, b] t fr)) : w.cell? ⟨g, 0, none⟩ = some a /\ w.cell? ⟨g, 1, none⟩ = some b := ⟨cell_of_row _ _ 0 _ _ _ h, cell_of_row _ _ 1 _ _ _ h⟩
theorem Z41 (k : Pck) (l : Lod) (vb vt vc : Value) (w : World) (hr : RdLod w vb vt vc l) (hs : SmallL l) :
 Calls Tryz.prog 79 #[Z3I k, Zdq vb vt vc] w fun e w' => ∃ v, e = .returned v /\ Below w.1.size w w' /\ IsB v (ConsOk k l) := by
 obtain ⟨i0, hi⟩ := info_parts Tryz.infoSlT
 have HI := Z0 hi
 obtain ⟨ab, cb, hvb, hcb⟩ := hr.b
 obtain ⟨at', ct, hvt, hct⟩ := hr.t
 obtain ⟨ac, cc, hvc, hccx⟩ := hr.c
 subst hvb hvt hvc
 have hnb := hs.t
 have hnt := hs.c
 have hti := hs.ci
 have hpl := fun x hx => ZaC (f := fun t : Con => t.ts) hs.ci x hx
 have HON := Z0 (fun W v (hb : Zjl W v (l.cons.map (fun t => t.ts))) => ZbX (l.cons.map (fun t => t.ts)) l.tras.length k.trays v W hb (by omega) (by rw [Z1o]; omega) (by rw [Z7]; omega))
 have hOK := fun (h : OnceOk (l.cons.map (fun t => t.ts)) l.tras.length k.trays) (h2 : ∀ t ∈ l.cons, ∀ i ∈ t.ts, ∃ b, l.tras[i.toNat]? = some b /\ b.lvl = t.lvl) => (⟨h, h2⟩ : ConsOk k l)
 have hNO := fun (h : ConsOk k l) => h
 unfold Zdq Z3I
 obtain ⟨kp, kg, kb, kt⟩ := k
 obtain ⟨bs, ts, cs⟩ := l
 dsimp only at *
 obtain ⟨w2, hw2⟩ : ∃ w2, w2 = (w.alloc (.cells #[.int .i64 kp, .int .i64 kg, .int .i64 kb, .int .i64 kt] 37)).alloc (.cells #[.slice ab bs.length cb, .slice at' ts.length ct, .slice ac cs.length cc] 52) := ⟨_, rfl⟩
 obtain ⟨g1, g2, z2, b2⟩ := Z8b hw2
 obtain ⟨x0, x1, x2⟩ := cells3 g2
 have HW2 := Z0 hw2
 have HB2 := Z0 b2
 have HL := Z0 (fun (W : World) (hB : Below w2.1.size w2 W) => And.intro (Z0D ((hB.block _ (by omega)).trans g1)) (cells3 ((hB.block _ (by omega)).trans g2)))
 have HCB := Z0 hct
 have HCT := Z0 hccx
 have HOK := Z0 hOK
 have HPL := Z0 hpl
 clear hw2 g1 g2 z2 b2 hcb hct hccx hr hs hOK hNO hi hpl
 go_enter Tryz.func79, Tryz.ntmps79
 go_upto_region 1 with fail
 rw [<- HW2.out]
 go_wp2_with (at_make; refine wpList_make_own _ rfl _ _ 109 rfl w2.1.size 35 i0 (.slice none 0 0) 1 Tryz.underlying109 HI.out.1 HI.out.2.1 HI.out.2.2.1 _ _ _ cs.length rfl (by first | rfl | simp) rfl (by rw [HI.out.2.2.2]; omega) (by unfold maxLen; omega) (Z1 _) ?_; intro w3 hown hgrow; have hb3 : Below w2.1.size w2 w3 := (Z9 _ _).grown hgrow (Z1 _) (fun _ e => by cases e); have HB3 := Z0 hb3; have HO3 := Z0 hown; clear hgrow hown; obtain ⟨⟨u0, u1, u2, u3⟩, v0, v1, v2⟩ := HL.out w3 hb3)
 go_loopw [5, 19] (fun lv i wx => ∃ q : Nat, q <= cs.length /\ i = .int .i64 q /\ Below w2.1.size w2 wx /\ OwnsRL w wx w2.1.size lv ((cs.take q).map (fun t => t.ts))) (fun _ i _ => cs.length - (intOf i).toNat)
 case atStart => exact ⟨0, ZE _, rfl, HB3.out, ⟨[], by simp, by simp, HO3.out⟩⟩
 case round =>
  clear u0 u1 u2 u3 v0 v1 v2 hb3 x0 x1 x2
  obtain ⟨q, hq, rfl, hB, hO⟩ := hrel
  have HBB := Z0 hB
  by_cases hlt : q < cs.length
  ·obtain ⟨g, off, rfl, hg, hcc⟩ := HCT.out (by omega)
   obtain ⟨s, hs, hcell⟩ := hcc q hlt
   have htk : (cs.take (q + 1)).map (fun t => t.ts) = (cs.take q).map (fun t => t.ts) ++ [cs[q].ts] := by rw [Z8 hlt, ZD]; rfl
   obtain ⟨t, ht⟩ : ∃ t, t = cs[q] := ⟨_, rfl⟩
   rw [<- ht] at hs hcell htk
   have hbw : Below w.1.size w wr := HB2.out.trans (hB.mono HB2.out.size)
   have f0 : wr.cell? ⟨g, off + q * 2, none⟩ = some (.int .i64 t.lvl) := (hbw.cell (p := ⟨g, off + q * 2, none⟩) hg).trans (hcell 0 _ rfl)
   have f2 : wr.cell? ⟨g, off + q * 2 + 1, none⟩ = some s := (hbw.cell (p := ⟨g, off + q * 2 + 1, none⟩) hg).trans (hcell 1 _ rfl)
   have HS := Z0 hs
   obtain ⟨as1, cs', rfl, _⟩ := hs
   have HTK := Z0 htk
   obtain ⟨av, cv, hlv⟩ := hO.form
   have hle : ((cs.take q).map (fun t => t.ts)).length = q := by rw [Z7, List.length_take]; omega
   rw [hle] at hlv
   subst hlv
   obtain ⟨L, hL, hLr, hLo⟩ := hO
   have hLl : L.length = q := by rw [<- hle, <- hL, Z7]
   subst hLl
   have HL0 := Z0 hL
   have HLR := Z0 hLr
   have hLo2 := (hLo.alloc (.cells #[.int .i64 t.lvl, .slice as1 t.ts.length cs'] 114)).alloc (.cells #[.slice as1 t.ts.length cs'] 35)
   have HLO := Z0 hLo2
   have HLT := Z0 (fun r e => (hLo.lt r e).1)
   clear ht hcell hcc hbw htk hL hLr hLo hLo2 hle hB
   go_wp2_with (at_builtin; refine wpList_append_own _ rfl _ _ 109 rfl w2.1.size 35 i0 (.slice none 0 0) 1 24 Tryz.underlying109 HI.out.1 HI.out.2.1 HI.out.2.2.1 HI.out.2.2.2 rfl (by decide) _ L.length _ rfl HLO.out ⟨wr.1.size + 1, 0, none⟩ 1 1 [.slice as1 t.ts.length cs'] rfl (by simp) (by simpa using cell_one_new (wr.alloc (.cells #[.int .i64 t.lvl, .slice as1 t.ts.length cs'] 114)) (.slice as1 t.ts.length cs') 35) (by simp [Value.oneCell']) (by unfold maxLen; omega) (by omega) (by have := HBB.out.size; simp; omega) ?_; intro v' w5 hown' hgrow _)
   go_roundw
   case rel =>
    refine ⟨L.length + 1, by omega, by go_num, ((HBB.out.alloc HBB.out.size _).alloc (by have := HBB.out.size; simp; omega) _).grown hgrow (by have := HBB.out.size; simp; omega) (fun r e => HLT.out r e), L ++ [(t.ts, .slice as1 t.ts.length cs')], ?_, ?_, ?_⟩
    ·rw [HTK.out, ZD, HL0.out]; rfl
    ·intro p hp
     rcases ZG.1 hp with hp | hp
     ·exact HLR.out p hp
     ·rw [ZI.1 hp]; exact HS.out
    ·rw [ZC, ZD]
     exact hown'
   case measure => simp [intOf]; omega
  ·obtain rfl : q = cs.length := by omega
   rw [List.take_length] at hO
   have hbw : Below w.1.size w wr := HB2.out.trans (hB.mono HB2.out.size)
   have HR := Z0 (hO.rd hbw)
   obtain ⟨av, cv, hlv⟩ := hO.form
   rw [Z7] at hlv
   subst hlv
   have HBW := Z0 hbw
   obtain ⟨⟨u0, u1, u2, u3⟩, v0, v1, v2⟩ := HL.out wr hB
   clear hO hbw hB
   go_upto_region 7 with fail
   go_cut [36] from 29 to 36 (fun b wx => ∃ c : Bool, b = .bool (!c) /\ (c = true ↔ OnceOk (cs.map (fun t => t.ts)) ts.length kt) /\ Below wr.1.size wr wx)
   case first =>
    go_wp2_with (go_at_call 114; refine (HON.out wr _ HR.out).mono ?_; rintro e w6 ⟨vv, rfl, hb6, r, rfl, hr⟩)
    go_meet
    exact ⟨r, rfl, hr, hb6⟩
   case rest =>
    clear u0 u1 u2 u3 v0 v1 v2
    obtain ⟨wp, hwp⟩ : ∃ x, x = wc := ⟨_, rfl⟩
    subst hwp
    obtain ⟨c, rfl, hc, hbc⟩ := hcut
    have HB6 := Z0 (HBB.out.trans (hbc.mono HBB.out.size))
    have HC := Z0 hc
    clear hbc hc
    cases c
    ·have hr : ¬ ConsOk ⟨kp, kg, kb, kt⟩ ⟨bs, ts, cs⟩ := fun h => by have := HC.out.2 h.once; cases this
     have HRR := Z0 hr
     clear hr
     go_wp2_with fail
     go_ret
     exact ⟨_, rfl, HB2.out.trans (HB6.out.mono HB2.out.size), IsB.no HRR.out⟩
    ·have hon := HC.out.1 rfl
     have hin := fun t (ht : t ∈ cs) i (hi : i ∈ t.ts) => hon.ins i (by rw [Z1o]; exact List.mem_flatMap.2 ⟨t, ht, hi⟩)
     have HON2 := Z0 hon
     have HIN := Z0 hin
     obtain ⟨⟨u0, u1, u2, u3⟩, v0, v1, v2⟩ := HL.out wp HB6.out
     clear hon hin
     go_wp2_with fail
     go_loopw [40] (fun i wx => ∃ q : Nat, q <= cs.length /\ i = .int .i64 q /\ Below w2.1.size w2 wx /\ ∀ t ∈ cs.take q, ∀ i ∈ t.ts, ∃ b, ts[i.toNat]? = some b /\ b.lvl = t.lvl) (fun i _ => cs.length - (intOf i).toNat)
     case atStart => exact ⟨0, ZE _, rfl, HB6.out, by simp⟩
     case round =>
      clear u0 u1 u2 u3 v0 v1 v2
      obtain ⟨wo, hwo⟩ : ∃ x, x = wr := ⟨_, rfl⟩
      subst hwo
      obtain ⟨q, hq, rfl, hB, hal⟩ := hrel
      have HB := Z0 hB
      have HAL := Z0 hal
      clear hal
      by_cases hlt : q < cs.length
      ·obtain ⟨g, off, rfl, hg, hcc⟩ := HCT.out (by omega)
       obtain ⟨s, hs, hcell⟩ := hcc q hlt
       have hbw : Below w.1.size w wo := HB2.out.trans (hB.mono HB2.out.size)
       have hmt := Z4 hlt
       have htk : cs.take (q + 1) = cs.take q ++ [cs[q]] := Z8 hlt
       have hlen := HPL.out _ hmt
       have hin := HIN.out _ hmt
       have hno : ConsOk ⟨kp, kg, kb, kt⟩ ⟨bs, ts, cs⟩ -> ∀ i ∈ cs[q].ts, ∃ b, ts[i.toNat]? = some b /\ b.lvl = cs[q].lvl := fun h => h.grp _ hmt
       obtain ⟨t, ht⟩ : ∃ t, t = cs[q] := ⟨_, rfl⟩
       rw [<- ht] at hs hcell htk hlen hin hno
       have f0 : wo.cell? ⟨g, off + q * 2, none⟩ = some (.int .i64 t.lvl) := (hbw.cell (p := ⟨g, off + q * 2, none⟩) hg).trans (hcell 0 _ rfl)
       have f2 : wo.cell? ⟨g, off + q * 2 + 1, none⟩ = some s := (hbw.cell (p := ⟨g, off + q * 2 + 1, none⟩) hg).trans (hcell 1 _ rfl)
       obtain ⟨as1, cs', rfl, hsc⟩ := hs
       obtain ⟨Wt, hWt⟩ : ∃ W, W = wo.alloc (.cells #[.int .i64 t.lvl, .slice as1 t.ts.length cs'] 114) := ⟨_, rfl⟩
       have hn := Z01 wo (.cells #[.int .i64 t.lvl, .slice as1 t.ts.length cs'] 114)
       have hbt : Below wo.1.size wo Wt := by rw [hWt]; exact (Z9 _ _).alloc (Z1 _) _
       have hNl : wo.1.size < Wt.1.size := by rw [hWt, Z6]; exact Nat.lt_succ_self _
       rw [<- hWt] at hn
       have HWT := Z0 hWt
       have HN := Z0 hn
       have HNL := Z0 hNl
       have HTK := Z0 htk
       have HIN2 := Z0 hin
       have HNO := Z0 hno
       have HSC := Z0 hsc
       have HBT := Z0 (HB.out.trans (hbt.mono HB.out.size))
       have HBWT := Z0 (hbw.trans (hbt.mono hbw.size))
       obtain ⟨n0, n1⟩ := Zht hn
       clear ht hcell hcc hWt hn hNl htk hin hno hsc hbw hbt hmt hB
       go_upto_region 12 with fail
       rw [<- HWT.out]
       go_wp2_with fail
       go_loopw [47] (fun i wx => ∃ p : Nat, p <= t.ts.length /\ i = .int .i64 p /\ Below Wt.1.size Wt wx /\ ∀ i ∈ t.ts.take p, ∃ b, ts[i.toNat]? = some b /\ b.lvl = t.lvl) (fun i _ => t.ts.length - (intOf i).toNat)
       case atStart => exact ⟨0, ZE _, rfl, Z9 _ _, by simp⟩
       case round =>
        clear n0 n1 f0 f2
        obtain ⟨wi, hwi⟩ : ∃ x, x = wr := ⟨_, rfl⟩
        subst hwi
        obtain ⟨p, hp, rfl, hB, hal2⟩ := hrel
        have HB3 := Z0 hB
        have HAL2 := Z0 hal2
        clear hal2
        by_cases hlp : p < t.ts.length
        ·obtain ⟨gs, os, rfl, hgs, hcs⟩ := HSC.out (by omega)
         have hbw : Below w.1.size w wi := HBWT.out.trans (hB.mono HBWT.out.size)
         have e1 := (hbw.cell (p := ⟨gs, os + p, none⟩) hgs).trans (hcs p hlp)
         obtain ⟨i0', i1'⟩ := HIN2.out _ (Z4 hlp)
         have hno := fun h => HNO.out h _ (Z4 hlp)
         have htk2 : t.ts.take (p + 1) = t.ts.take p ++ [t.ts[p]] := Z8 hlp
         obtain ⟨x, hx⟩ : ∃ x, x = t.ts[p] := ⟨_, rfl⟩
         rw [<- hx] at e1 i0' i1' hno htk2
         obtain ⟨j, rfl⟩ : ∃ j : Nat, x = (j : Int) := ⟨x.toNat, by omega⟩
         have hj : j < ts.length := by omega
         rw [Int.toNat_natCast, Z3 hj] at hno
         obtain ⟨gb, ob, rfl, hgb, hcb⟩ := HCB.out (by omega)
         obtain ⟨sb, _, hcell⟩ := hcb j hj
         have hbj : ts[j]? = some ts[j] := Z3 hj
         obtain ⟨b, hbe⟩ : ∃ b, b = ts[j] := ⟨_, rfl⟩
         rw [<- hbe] at hcell hno hbj
         have b0 : wi.cell? ⟨gb, ob + j * 3, none⟩ = some (.int .i64 b.lvl) := (hbw.cell (p := ⟨gb, ob + j * 3, none⟩) hgb).trans (hcell 0 _ rfl)
         obtain ⟨⟨u0, u1, u2, u3⟩, v0, v1, v2⟩ := HL.out wi (HBT.out.trans (hB.mono HBT.out.size))
         obtain ⟨n0, n1⟩ := Zht ((hB.block _ HNL.out).trans HN.out)
         have HNO2 := Z0 hno
         have HTK2 := Z0 htk2
         have HBJ := Z0 hbj
         clear hcell hcb hbe hno htk2 hbj hx hcs hbw hB i0' i1'
         by_cases q1 : b.lvl = t.lvl
         ·have hbq : (b.lvl != t.lvl) = false := by simp [q1]
          have Q := Z0 q1
          clear q1
          go_wp2_with fail
          go_quiet (fail)
          go_wp2_with fail
          go_roundw
          case rel =>
           refine ⟨p + 1, by omega, by go_num, (by first | exact below_drewN HB3.out _ | exact HB3.out.drew), ?_⟩
           rw [HTK2.out]
           intro y hy
           rcases ZG.1 hy with hy | hy
           ·exact HAL2.out y hy
           ·rw [ZI.1 hy, Int.toNat_natCast]
            exact ⟨b, HBJ.out, Q.out⟩
          case measure => simp [intOf]; omega
         ·have hbq : (b.lvl != t.lvl) = true := by simp [q1]
          have hr : ¬ ConsOk ⟨kp, kg, kb, kt⟩ ⟨bs, ts, cs⟩ := fun h => by
           obtain ⟨b', h1, h2⟩ := HNO2.out h
           obtain rfl := Option.some.inj h1
           exact q1 h2
          have HRR := Z0 hr
          clear hr q1
          go_wp2_with fail
          go_quiet (fail)
          go_wp2_with fail
          go_ret
          exact ⟨_, rfl, by first | exact below_drewN (HBWT.out.trans (HB3.out.mono HBWT.out.size)) _ | exact (HBWT.out.trans (HB3.out.mono HBWT.out.size)).drew, IsB.no HRR.out⟩
        ·obtain rfl : p = t.ts.length := by omega
         rw [List.take_length] at HAL2
         clear hB
         go_wp2_with fail
         go_roundw
         case rel =>
          refine ⟨q + 1, by omega, by go_num, HBT.out.trans (HB3.out.mono HBT.out.size), ?_⟩
          rw [HTK.out]
          intro y hy
          rcases ZG.1 hy with hy | hy
          ·exact HAL.out y hy
          ·rw [ZI.1 hy]
           exact HAL2.out
         case measure => simp [intOf]; omega
      ·obtain rfl : q = cs.length := by omega
       have hal := HAL.out
       rw [List.take_length] at hal
       have HRR := Z0 (HOK.out HON2.out hal)
       clear hal hB
       go_wp2_with fail
       go_ret
       exact ⟨_, rfl, HB2.out.trans (HB.out.mono HB2.out.size), IsB.yes HRR.out⟩
theorem Zem {ls : List Lev} {m : Mai} (h : HasPlan ls m) (v vp vz : Value) (zs : List Int) (k : Pck) (w : World) (hr : RdLevs w v ls) (hrp : RdPces w vp m.ps) (hz : RdInts w vz zs) (hzl : zs.length = m.ps.length) (hn : Z1g ls.length zs = true) (hA : Zab ls m zs k = 0)
 (hk : Z7f k = true) (hkg : ∀ p ∈ m.ps, p.grams <= k.grams) :
 Calls Tryz.prog 12 #[v, Z22 m vp, vz, Z3I k] w fun e w' => ∃ vb vt vc, e = .returned (.tuple #[Zdq vb vt vc, .int .i64 0]) /\ Below w.1.size w w' /\
  OwnsX 67 4 Z0N (fun b => b.ids) w' w.1.size vb (Z1Y k m.ps zs (Z0Y ls (Z06 m.ps) ls.length) (Z0Y ls (Z06 m.ps) ls.length).length).buns /\
  OwnsX 112 3 Z2L (fun t => t.bs) w' w.1.size vt (Z1Y k m.ps zs (Z0Y ls (Z06 m.ps) ls.length) (Z0Y ls (Z06 m.ps) ls.length).length).tras /\
  OwnsX 114 2 Z2Y (fun c => c.ts) w' w.1.size vc (Z1Y k m.ps zs (Z0Y ls (Z06 m.ps) ls.length) (Z0Y ls (Z06 m.ps) ls.length).length).cons := by
 obtain ⟨j0, hj⟩ := info_parts Tryz.infoB4
 have HJB := Z0 hj
 obtain ⟨j1, hj1⟩ := info_parts Tryz.infoTr
 have HJT := Z0 hj1
 obtain ⟨j2, hj2⟩ := info_parts Tryz.infoCo
 have HJC := Z0 hj2
 have hpl := h.few
 have hll := Z0z h.right
 have hgf := h.groups_few
 obtain ⟨hidg, hup⟩ := Z8z h.mail
 have hcl : (Z06 m.ps).length = m.ps.length := Z1w _
 have hG : GrpsIn m.ps (Z0Y ls (Z06 m.ps) ls.length) := Zb7 hcl
 have hO : OwnIn m.ps zs (Z0Y ls (Z06 m.ps) ls.length) := Zc7 hcl hzl hn
 have hkk : (1 <= k.pieces /\ k.pieces <= 2000 /\ 1 <= k.grams /\ k.grams <= 1000000) /\ (1 <= k.bundles /\ k.bundles <= 200 /\ 1 <= k.trays /\ k.trays <= 200) := by
  unfold Z7f at hk
  rw [ZF, decide_eq_true_eq, decide_eq_true_eq] at hk
  exact hk
 have HAL := Z0 (fun W (hW : Below w.1.size w W) => Z75 ls v vp vz m zs k W (hr.below hW) (Z1q h.right) (by omega) (hrp.below hW) h.rng h.org (by omega) (fun p hp => by have := Z0s ((Z1F h.mail).2 p hp); unfold maxLen; omega) (hz.below hW) (by omega))
 rw [hA] at HAL
 have HGO := Z0 (fun W (hW : Below w.1.size w W) => Z6N h (hr.below hW) (hrp.below hW))
 have hitl : ∀ x ∈ Z0Y ls (Z06 m.ps) ls.length, x.items.length <= 2000 := fun x hx => by
  obtain ⟨mm, n, _, _, rfl⟩ := Z20.1 hx
  have := Z6D ls (Z06 m.ps) mm n
  show (itm ls (Z06 m.ps) mm n).length <= 2000
  omega
 obtain ⟨Gs, hGs⟩ : ∃ Gs, Gs = Z0Y ls (Z06 m.ps) ls.length := ⟨_, rfl⟩
 rw [<- hGs] at hgf hG hO HGO hitl ⊢
 have HBO := Z0 (fun (x : Grp) (hx : x ∈ Gs) sv W (hW : Below w.1.size w W) (hs : RdInts W sv x.items) => Z8V x sv vp vz m zs k W hs (hrp.below hW) (hz.below hW) hzl hpl (hitl x hx) (fun i hi => (hG.items x hx).2 i hi) ⟨hkk.1.1, hkk.1.2.1, by omega, hkk.1.2.2.2⟩ (fun p hp => ⟨by have := hidg p hp; omega, by have := hidg p hp; omega, hkg p hp⟩))
 have HSM := Z0 (fun n hn => ZbQ (k := k) (ps := m.ps) (zs := zs) (Gs := Gs) hkk.1.1 (by omega) hkk.2.1 hkk.2.2.2.1 hkg hup hG hO n hn)
 have HRP := Z0 hrp
 have HKG := Z0 hkg
 have HYES := Z0 (fun j hj he st hst bs hbs ts hts => Zge (k := k) (ps := m.ps) (zs := zs) (Gs := Gs) (j := j) hj he (st := st) hst (bs := bs) hbs (ts := ts) hts)
 have HNOT := Z0 (fun j hj he st hst bs hbs ts hts => Zgf (k := k) (ps := m.ps) (zs := zs) (Gs := Gs) (j := j) hj he (st := st) hst (bs := bs) hbs (ts := ts) hts)
 obtain ⟨av, cv, rfl, hpc⟩ := hrp
 have HPC := Z0 hpc
 clear hj hj1 hj2 hidg hup hcl hG hO hk hitl hGs hr hz hn hA h hpc hkg
 obtain ⟨pkS, hpk⟩ : ∃ f : Nat -> PkS, f = Z1Y k m.ps zs Gs := ⟨_, rfl⟩
 have HP0 : Hid (pkS 0 = ⟨[], [], [], 0⟩) := by rw [hpk]; unfold Z1Y; rfl
 rw [<- hpk] at HSM HYES HNOT ⊢
 have HBN : Hid (∀ x, Z0S k m.ps zs x = Z0S k m.ps zs x) := fun _ => rfl
 obtain ⟨bOf, hbOf⟩ : ∃ f : Grp -> List Bun, f = Z0S k m.ps zs := ⟨_, rfl⟩
 rw [<- hbOf] at HYES HNOT HBO
 unfold Z22 Z3I Zdq at *
 obtain ⟨kp, kg, kb, kt⟩ := k
 obtain ⟨cls, ctr, org, ps⟩ := m
 dsimp only at *
 obtain ⟨hk1, hk2⟩ := hkk
 obtain ⟨kb, rfl⟩ : ∃ n : Nat, kb = (n : Int) := ⟨kb.toNat, by omega⟩
 obtain ⟨kt, rfl⟩ : ∃ n : Nat, kt = (n : Int) := ⟨kt.toNat, by omega⟩
 rw [Int.toNat_natCast, Int.toNat_natCast] at HYES
 rw [Int.toNat_natCast] at HNOT
 clear hpk hbOf HBN
 obtain ⟨w3, hw3⟩ : ∃ w3, w3 = ((w.alloc (.cells #[.int .u8 cls, .int .u8 ctr, .string org, .slice av ps.length cv] 34)).alloc (.cells #[.int .i64 kp, .int .i64 kg, .int .i64 kb, .int .i64 kt] 37)).alloc (.cells #[.slice none 0 0, .slice none 0 0, .slice none 0 0] 52) := ⟨_, rfl⟩
 obtain ⟨g1, g2, g3⟩ := Za7 hw3
 have hz3 : w3.1.size = w.1.size + 1 + 1 + 1 := by rw [hw3, Z6, Z6, Z6]
 have hb3 : Below w.1.size w w3 := by
  rw [hw3]
  exact (((Z9 _ w).alloc (Z1 _) _).alloc (by simp) _).alloc (by simp; omega) _
 have HBX := Z0 (fun (W : World) (hB : Below w3.1.size w3 W) => And.intro (Z0D ((hB.block _ (by omega)).trans g1)) (Z0D ((hB.block _ (by omega)).trans g2)))
 have HL8 := Z0 (fun (W : World) (hB : Below w3.1.size w3 W) => (hB.block _ (by omega)).trans g3)
 have HFR := Z0 (fun (W : World) (hB : Below w3.1.size w3 W) => (fun j => Z3v (i := j) ((hB.block _ (by omega)).trans g3) : ∀ j, W.frozen? ⟨w.1.size + 1 + 1, j, none⟩ = false))
 have HW3 := Z0 hw3
 have HB3 := Z0 hb3
 have HZ3 := Z0 hz3
 clear hw3 hb3 hz3 g1 g2 g3
 obtain ⟨⟨x0, x1, x2, x3⟩, y0, y1, y2, y3⟩ := HBX.out w3 (Z9 _ _)
 go_enter Tryz.func12, Tryz.ntmps12
 go_upto_region 1 with fail
 rw [<- HW3.out]
 go_wp2_with (go_at_call 29; refine (HAL.out _ HB3.out).mono ?_; rintro e w4 ⟨rfl, hb4⟩; obtain ⟨⟨f0, f1, f2, f3⟩, e0, e1, e2, e3⟩ := HBX.out w4 hb4)
 go_loopw [37] (fun i wx => ∃ j : Nat, j <= ps.length /\ i = .int .i64 j /\ Below w3.1.size w3 wx) (fun i _ => ps.length - (intOf i).toNat)
 case atStart => exact ⟨0, ZE _, rfl, hb4⟩
 case round =>
  clear f0 f1 f2 f3 e0 e1 e2 e3 hb4 x0 x1 x2 x3 y0 y1 y2 y3
  obtain ⟨j, hj, rfl, hB⟩ := hrel
  have HBB := Z0 hB
  by_cases hlt : j < ps.length
  ·obtain ⟨g, off, rfl, hg, hat⟩ := HPC.out (by omega)
   have hp := ((hat j hlt).below HB3.out hg).below hB (ZH hg HB3.out.size)
   have hgt := HKG.out _ (Z4 hlt)
   obtain ⟨p, hpe⟩ : ∃ p, p = ps[j] := ⟨_, rfl⟩
   rw [<- hpe] at hp hgt
   obtain ⟨id, pt, cd, gr, br⟩ := p
   obtain ⟨p0, p1, p2, p3, p4⟩ := hp
   dsimp only at p0 p1 p2 p3 p4 hgt
   obtain ⟨⟨f0, f1, f2, f3⟩, e0, e1, e2, e3⟩ := HBX.out (wr.alloc (.cells #[.int .i64 id, .int .i64 pt, .string cd, .int .i64 gr, .bool br] 65)) (hB.alloc hB.size _)
   have hle : ¬ gr > kg := by omega
   clear hpe hat hB hgt
   go_wp2_with fail
   go_roundw
   case rel => exact ⟨j + 1, by omega, by go_num, HBB.out.alloc HBB.out.size _⟩
   case measure => simp [intOf]; omega
  ·obtain ⟨⟨f0, f1, f2, f3⟩, e0, e1, e2, e3⟩ := HBX.out wr hB
   have hbw : Below w.1.size w wr := HB3.out.trans (hB.mono HB3.out.size)
   have HBW := Z0 hbw
   clear hB hbw
   go_wp2_with (go_at_call 30; refine (HGO.out _ HBW.out).mono ?_; rintro e wg ⟨ag, cg, rfl, hbg, hrg⟩; have HBG3 := Z0 (HBB.out.trans (hbg.mono HBB.out.size)); have HBGW := Z0 (HBW.out.trans (hbg.mono HBW.out.size)); have HRG := Z0 hrg; clear hbg hrg)
   have hj' : j = ps.length := by omega
   clear hlt hj' hj e0 e1 e2 e3 f0 f1 f2 f3
   have HT0 : Hid (LodW (wg.alloc (.cells #[.slice none 0 0, .slice none 0 0, .slice none 0 0] 52)) wg.1.size wg.1.size [] [] [] (.slice none 0 0) (.slice none 0 0) (.slice none 0 0)) := ⟨Z01 wg _, OwnsX.nil _ _, OwnsX.nil _ _, OwnsX.nil _ _⟩
   go_loopw [16, 60] (fun bg i wx => ∃ (j : Nat) (vb vt vc : Value), j <= Gs.length /\ i = .int .i64 j /\ bg = .int .i64 ((pkS j).beg : Nat) /\ Below wg.1.size wg wx /\ LodW wx wg.1.size wg.1.size (pkS j).buns (pkS j).tras (pkS j).cons vb vt vc) (fun _ i _ => Gs.length - (intOf i).toNat)
   case atStart => exact ⟨0, _, _, _, ZE _, rfl, by rw [HP0.out]; rfl, (Z9 _ _).alloc (Z1 _) _, by rw [HP0.out]; exact HT0.out⟩
   case round =>
    clear HT0
    obtain ⟨wo, hwo⟩ : ∃ x, x = wr := ⟨_, rfl⟩
    subst hwo
    obtain ⟨j, vb, vt, vc, hj, rfl, rfl, hB, hL⟩ := hrel
    have HB := Z0 hB
    by_cases hlt : j < Gs.length
    ·have hsm := HSM.out j (by omega)
     have hsm1 := HSM.out (j + 1) hlt
     have hyes := HYES.out j hlt
     have hnot := HNOT.out j hlt
     have hbo := HBO.out Gs[j] (Z4 hlt)
     have hends := ZgN (Gs := Gs) (j := j)
     obtain ⟨gg, og, rfl, hgg, hcg⟩ := RdGrps.lies HRG.out (by omega)
     obtain ⟨sv, hsv, hgat⟩ := hcg j hlt
     obtain ⟨x, hx⟩ : ∃ x, x = Gs[j] := ⟨_, rfl⟩
     rw [<- hx] at hyes hnot hbo hsv hgat
     obtain ⟨asx, csx, hsf, _⟩ := id hsv
     subst hsf
     obtain ⟨st, hst⟩ : ∃ st, st = pkS j := ⟨_, rfl⟩
     have hyes := fun he bs hbs ts hts => hyes he st hst bs hbs ts hts
     have hnot := fun he bs hbs ts hts => hnot he st hst bs hbs ts hts
     rw [<- hst] at hsm hL ⊢
     obtain ⟨bs, hbs⟩ : ∃ bs, bs = st.buns ++ bOf x := ⟨_, rfl⟩
     have hyes := fun he ts hts => hyes he bs hbs ts hts
     have hnot := fun he ts hts => hnot he bs hbs ts hts
     obtain ⟨ts, hts⟩ : ∃ ts, ts = st.tras ++ (Z0O st.buns.length bs.length kb).map (Z4O x) := ⟨_, rfl⟩
     have hyes := fun he => hyes he ts hts
     have hnot := fun he => hnot he ts hts
     have hsz : bs.length <= ps.length /\ ts.length <= ps.length := by
      by_cases he : Z2W Gs j
      ·rw [hyes he] at hsm1; exact ⟨hsm1.1, hsm1.2.1⟩
      ·rw [hnot he] at hsm1; exact ⟨hsm1.1, hsm1.2.1⟩
     have HSM1 := Z0 hsm1
     have HY := Z0 hyes
     have HN := Z0 hnot
     have HE := Z0 hends
     have HX := Z0 hx
     have HST := Z0 hst
     have HBS := Z0 hbs
     have HTS := Z0 hts
     have hbWw : Below w.1.size w wo := HBGW.out.trans (hB.mono HBGW.out.size)
     obtain ⟨Wq, N, hWq, hN, b1, b2, hgat', c0, c1, c2, c3⟩ := Zfu wo wg w x (.slice asx x.items.length csx) (.slice asx x.items.length csx) gg (og + j * 4) hbWw hB hgg hgat 107
     have hbq : Below wo.1.size wo Wq := by rw [<- hWq]; exact (Z9 _ _).alloc (Z1 _) _
     have hb3 : Below w3.1.size w3 Wq := HBG3.out.trans (b2.mono HBG3.out.size)
     obtain ⟨g0, g1, g2, g3⟩ := hgat.below hB hgg
     have hNlt : N < Wq.1.size := by rw [<- hWq, <- hN, Z6]; omega
     have HWQ := Z0 hWq
     have HNN := Z0 hN
     have hLq := hL.below hbq
     have hNh : Wq.1[N]? = some (.cells #[.int .i64 x.lvl, .string x.name, .int .i64 x.up, .slice asx x.items.length csx] 107 (0, 0)) := by rw [<- hWq, <- hN]; exact Z01 wo _
     have hPQ : PkW wg Wq N x (.slice asx x.items.length csx) st.buns st.tras st.cons vb vt vc := ⟨b2, hLq, hNh⟩
     have HPQ := Z0 hPQ
     have HBQ := Z0 hbq
     have HB2 := Z0 b2
     have HBO2 := Z0 (hbo _ Wq b1 (hsv.below b2))
     have HB1 := Z0 b1
     have HB3Q := Z0 hb3
     have HSV := Z0 hsv
     have HTL : Hid (wg.1.size < Wq.1.size) := hLq.lt
     obtain ⟨⟨f0, f1, f2, f3⟩, e0, e1, e2, e3⟩ := HBX.out Wq hb3
     clear hsm1 hyes hnot hends hst hbs hts hbWw hWq hN hb3 hgat' hgat hcg hL hLq hbq hbo hsv b1 b2 hx hNh hPQ
     go_upto_region 18 with fail
     rw [HWQ.out, HNN.out]
     obtain ⟨ab, cb, hvb⟩ := HPQ.out.l.b.form
     subst hvb
     obtain ⟨z0, z1, z2⟩ := cells3 HPQ.out.l.cell
     go_wp2_with (first
      | (go_at_call 31; refine HBO2.out.mono ?_; rintro e w7 ⟨v7, rfl, hb7, ho7⟩; obtain ⟨L7, hL7, hLr7, hLo7⟩ := ho7; have HP7 := Z0 (HPQ.out.below hb7); obtain ⟨z0, z1, z2⟩ := cells3 HP7.out.l.cell; obtain ⟨L, hL, hLr, hLo⟩ := HP7.out.l.b; obtain ⟨hlb, hl7⟩ := Zh2 hL hL7 HBS.out)
      | (at_builtin; refine Z45 _ rfl _ _ 48 rfl wg.1.size 67 j0 (.agg #[.int .i64 0, .string ⟨#[]⟩, .slice none 0 0, .int .i64 0]) 4 56 Tryz.underlying48 HJB.out.1 HJB.out.2.1 HJB.out.2.2.1 HJB.out.2.2.2 rfl (by decide) _ L.length _ rfl hLo _ _ L7.length _ rfl hLo7 (Zik hLr7) (by unfold maxLen; omega) (by omega) (Nat.le_of_lt HP7.out.l.lt) ?_; intro v8 w8 hown hgrow; have ho8 := OwnsX.app (ids := fun b : Bun => b.ids) (by decide) hLr (fun p hp => (hLr7 p hp).mono (Nat.le_of_lt HTL.out)) hLo hgrow hown; (rw [hL, hL7, <- HBS.out] at ho8); obtain ⟨a8, c8, hv8⟩ := ho8.form; subst hv8; obtain ⟨hp9, hfz8, hc8⟩ := HP7.out.addB hgrow ho8; have HP9 := Z0 hp9; obtain ⟨u0, u1, u2⟩ := cells3 hp9.l.cell; obtain ⟨_, t0, t1, t2, t3⟩ := HBX.out _ (HBG3.out.trans (hp9.b.mono HBG3.out.size)); clear z0 z1 z2 hLr hLr7 hLo7 hL hL7 hlb hl7 ho8 hp9 hown e0 e1 e2 e3)
      | (go_at_call 32; refine (Z7w st.buns.length bs.length kb _ (by omega) (by rw [HBS.out, ZC]; omega) (by omega) (by omega)).mono ?_; rintro e w10 ⟨v10, rfl, hb10, ho10⟩; obtain ⟨a10, c10, hv10, _⟩ := ho10.lies; subst hv10; have HP10 := Z0 (HP9.out.below hb10); have HL10 := Z0 (ho10.mono HP9.out.b.size); clear ho10 hb10))
     obtain ⟨R, hR⟩ : ∃ R, R = Z0O st.buns.length bs.length kb := ⟨_, rfl⟩
     rw [<- hR] at HTS HL10 ⊢
     have hts := HTS.out
     have htl : st.tras.length + R.length = ts.length := by rw [hts, ZC, Z7]
     clear hR hts u0 u1 u2 t0 t1 t2 t3 hfz8 hc8 hgrow f0 f1 f2 f3 c0 c1 c2 c3
     go_loopw [86] (fun i wx => ∃ (q : Nat) (vt' : Value), q <= R.length /\ i = .int .i64 q /\ PkW wg wx N x (.slice asx x.items.length csx) bs (st.tras ++ (R.take q).map (Z4O x)) st.cons (.slice a8 bs.length c8) vt' vc /\ OwnsLL wx wg.1.size (.slice a10 R.length c10) R) (fun i _ => R.length - (intOf i).toNat)
     case atStart => exact ⟨0, vt, ZE _, rfl, by rw [List.take_zero, List.map_nil, List.append_nil]; exact HP10.out, HL10.out⟩
     case round =>
      obtain ⟨wi, hwi⟩ : ∃ x, x = wr := ⟨_, rfl⟩
      subst hwi
      obtain ⟨q, vt', hq, rfl, hP, hLL⟩ := hrel
      have HP := Z0 hP
      have HLL := Z0 hLL
      by_cases hqn : q < R.length
      ·obtain ⟨g10, rfl, hg10, hat⟩ := hLL.at (by omega)
       obtain ⟨sl, hs, hrow⟩ := hat q hqn
       have htk : R.take (q + 1) = R.take q ++ [R[q]] := Z8 hqn
       obtain ⟨l, hl⟩ : ∃ l, l = R[q] := ⟨_, rfl⟩
       rw [<- hl] at hrow htk
       obtain ⟨al, cl, hsl, _⟩ := id hrow
       subst hsl
       have HTK := Z0 htk
       have HROW := Z0 hrow
       have htq : st.tras ++ (R.take (q + 1)).map (Z4O x) = (st.tras ++ (R.take q).map (Z4O x)) ++ [Z4O x l] := by rw [htk, ZD, List.append_assoc]; rfl
       have hTql : (st.tras ++ (R.take q).map (Z4O x)).length = st.tras.length + q := by rw [ZC, Z7, List.length_take]; omega
       obtain ⟨tq', htq'⟩ : ∃ l, l = st.tras ++ (R.take (q + 1)).map (Z4O x) := ⟨_, rfl⟩
       obtain ⟨tq, htq0⟩ : ∃ l, l = st.tras ++ (R.take q).map (Z4O x) := ⟨_, rfl⟩
       rw [<- htq', <- htq0] at htq
       rw [<- htq0] at hTql hP
       have HTQ := Z0 htq
       have HTQ' := Z0 htq'
       obtain ⟨at', ct', hvt⟩ := hP.l.t.form
       subst hvt
       obtain ⟨z0, z1, z2⟩ := cells3 hP.l.cell
       obtain ⟨c0, c1, c2, c3⟩ := Z0D hP.n
       have hPa := hP.below ((Z9 wi.1.size wi).alloc (Z1 _) (.cells #[.int .i64 x.lvl, .string x.name, .slice al l.length cl] 112))
       obtain ⟨L, hL, hLr, hLo⟩ := hPa.l.t
       have hLn : L.length = st.tras.length + q := by
        have := congrArg List.length hL
        rw [Z7] at this
        omega
       have hrow' := hrow.below ((Z9 wi.1.size wi).alloc (Z1 _) (.cells #[.int .i64 x.lvl, .string x.name, .slice al l.length cl] 112))
       have HROW' := Z0 hrow'
       have HPA := Z0 hPa
       have HLo := Z0 hLo
       have HLr := Z0 hLr
       have HL := Z0 hL
       have hzs := hPa.b.size
       have HZS := Z0 hzs
       have HLA : Hid (OwnsLL (wi.alloc (.cells #[.int .i64 x.lvl, .string x.name, .slice al l.length cl] 112)) wg.1.size (.slice (some ⟨g10, 0, none⟩) R.length c10) R) := hLL.below ((Z9 wi.1.size wi).alloc (Z1 _) _)
       clear hl hat hP hLL hrow htk hPa hrow' hLo hLr hL hzs htq htq' htq0 hTql
       go_wp2_with (at_builtin; refine wpList_append_own _ rfl _ _ 49 rfl wg.1.size 112 j1 (.agg #[.int .i64 0, .string ⟨#[]⟩, .slice none 0 0]) 3 48 Tryz.underlying49 HJT.out.1 HJT.out.2.1 HJT.out.2.2.1 HJT.out.2.2.2 rfl (by decide) _ L.length _ rfl HLo.out ⟨wi.1.size, 0, none⟩ 1 1 [.int .i64 x.lvl, .string x.name, .slice al l.length cl] rfl rfl (Z0f _ _ _) (by simp [Value.oneCell']) (by unfold maxLen; omega) (by omega) HZS.out ?_; intro v8 w8 hown hgrow _; have ho8 := OwnsX.add (ids := fun t : Tra => t.bs) (x := Z4O x l) HL.out (by decide) HLr.out HROW'.out HLo.out hgrow hown; (rw [<- HTQ.out] at ho8); obtain ⟨a9, c9, hv8⟩ := ho8.form; subst hv8; obtain ⟨hp9, hfz8, hc8⟩ := HPA.out.addT hgrow ho8; have HP9 := Z0 hp9; have HL9 := Z0 (HPA.out.rowsT hgrow HLA.out (.slice a9 tq'.length c9)); clear ho8 hp9 hown)
       go_roundw
       case rel =>
        refine ⟨q + 1, .slice a9 tq'.length c9, by omega, by go_num, ?_, HL9.out⟩
        rw [<- HTQ'.out]
        exact HP9.out
       case measure => simp [intOf]; omega
      ·have hqe : q = R.length := by omega
       subst hqe
       rw [List.take_length, <- HTS.out] at hP HP
       obtain ⟨c0, c1, c2, c3⟩ := Z0D hP.n
       have hbg : Below wg.1.size wg wi := hP.b
       clear hLL HLL hP hqn hq htl
       obtain ⟨av1, cv1, hvt⟩ := HP.out.l.t.form
       subst hvt
       go_upto_region 26 with fail
       go_cut [117] from 102 to 117 (fun b wx => ∃ c : Bool, b = .bool c /\ (c = true ↔ ¬ Z2W Gs j) /\ Below wi.1.size wi wx)
       case first =>
        by_cases h1 : j + 1 < Gs.length
        ·obtain ⟨gg2, og2, hga, hgg2, hcg⟩ := RdGrps.lies HRG.out (by omega)
         injection hga with hga
         injection hga with hga1 hga2 _
         subst hga1 hga2
         obtain ⟨sv2, _, i0, _, _, _⟩ := hcg (j + 1) h1
         replace i0 := (hbg.cell (p := ⟨gg, og + (j + 1) * 4, none⟩) hgg2).trans i0
         have hend : Z2W Gs j ↔ ¬ (Gs[j + 1].lvl = x.lvl) := by
          rw [HE.out]
          constructor
          ·intro h e; exact h ⟨h1, by rw [e, HX.out]⟩
          ·rintro h ⟨h2, h3⟩; exact h (by rw [h3, HX.out])
         obtain ⟨lv2, hlv2⟩ : ∃ z, z = Gs[j + 1].lvl := ⟨_, rfl⟩
         rw [<- hlv2] at i0 hend
         have HEND := Z0 hend
         have hd1 : decide ((j : Int) + 1 < (Gs.length : Int)) = true := decide_eq_true (by omega)
         have hd2 : decide (j + 1 < Gs.length) = true := decide_eq_true h1
         clear hcg hlv2 hend
         by_cases h2 : lv2 = x.lvl
         ·have hbq : (lv2 == x.lvl) = true := by simp [h2]
          have h3 : ¬ Z2W Gs j := fun h => HEND.out.1 h h2
          have H3 := Z0 h3
          clear h2 h3
          go_wp2_with fail
          go_quiet (fail)
          go_wp2_with fail
          go_meet
          exact ⟨true, rfl, by simp [H3.out], (by first | exact below_drewN (Z9 _ _) _ | exact (Z9 _ _).drew)⟩
         ·have hbq : (lv2 == x.lvl) = false := by simp [h2]
          have h3 : Z2W Gs j := HEND.out.2 h2
          have H3 := Z0 h3
          clear h2 h3
          go_wp2_with fail
          go_quiet (fail)
          go_wp2_with fail
          go_meet
          exact ⟨false, rfl, by simp [H3.out], (by first | exact below_drewN (Z9 _ _) _ | exact (Z9 _ _).drew)⟩
        ·have h3 : Z2W Gs j := HE.out.2 (fun ⟨h2, _⟩ => h1 h2)
         have H3 := Z0 h3
         have hd1 : decide ((j : Int) + 1 < (Gs.length : Int)) = false := decide_eq_false (by omega)
         have hd2 : decide (j + 1 < Gs.length) = false := decide_eq_false h1
         clear h3 h1
         go_wp2_with fail
         go_quiet (fail)
         go_wp2_with fail
         go_meet
         exact ⟨false, rfl, by simp [H3.out], (by first | exact below_drewN (Z9 _ _) _ | exact (Z9 _ _).drew)⟩
       case rest =>
        obtain ⟨wk, hwk⟩ : ∃ x, x = wc := ⟨_, rfl⟩
        subst hwk
        obtain ⟨c, rfl, hc, hb⟩ := hcut
        have HPK := Z0 (HP.out.below hb)
        clear c0 c1 c2 c3 hbg hb
        cases c
        ·have he : Z2W Gs j := Classical.byContradiction (fun h => Bool.noConfusion (hc.2 h))
         have hy := HY.out he
         have hbl : st.beg <= ts.length := by
          have h1 := HTS.out
          have h2 := congrArg List.length h1
          rw [ZC] at h2
          omega
         have hcl : (st.cons ++ (Z0O st.beg ts.length kt).map (Z7o x)).length <= ps.length := by
          have h1 := HSM1.out.2.2.1
          rw [hy] at h1
          exact h1
         have HYY := Z0 hy
         have hsz2 := hsz.2
         obtain ⟨z0, z1, z2⟩ := cells3 HPK.out.l.cell
         obtain ⟨_, t0, t1, t2, t3⟩ := HBX.out wk (HBG3.out.trans (HPK.out.b.mono HBG3.out.size))
         clear hy hc he
         go_wp2_with (go_at_call 32; refine (Z7w st.beg ts.length kt _ (by omega) hbl (by omega) (by omega)).mono ?_; rintro e w11 ⟨v11, rfl, hb11, ho11⟩; obtain ⟨a11, c11, hv11, _⟩ := ho11.lies; subst hv11; have HP11 := Z0 (HPK.out.below hb11); have HL11 := Z0 (ho11.mono HPK.out.b.size); clear ho11 hb11)
         obtain ⟨R2, hR2⟩ : ∃ R, R = Z0O st.beg ts.length kt := ⟨_, rfl⟩
         rw [<- hR2] at HYY HL11 hcl ⊢
         rw [ZC, Z7] at hcl
         clear hR2 z0 z1 z2 t0 t1 t2 t3
         go_loopw [126] (fun i wx => ∃ (q : Nat) (vc' : Value), q <= R2.length /\ i = .int .i64 q /\ PkW wg wx N x (.slice asx x.items.length csx) bs ts (st.cons ++ (R2.take q).map (Z7o x)) (.slice a8 bs.length c8) (.slice av1 ts.length cv1) vc' /\ OwnsLL wx wg.1.size (.slice a11 R2.length c11) R2) (fun i _ => R2.length - (intOf i).toNat)
         case atStart => exact ⟨0, vc, ZE _, rfl, by rw [List.take_zero, List.map_nil, List.append_nil]; exact HP11.out, HL11.out⟩
         case round =>
          obtain ⟨wi2, hwi2⟩ : ∃ x, x = wr := ⟨_, rfl⟩
          subst hwi2
          obtain ⟨q, vc', hq, rfl, hP, hLL⟩ := hrel
          have HP2 := Z0 hP
          have HLL := Z0 hLL
          by_cases hqn : q < R2.length
          ·obtain ⟨g11, rfl, hg11, hat⟩ := hLL.at (by omega)
           obtain ⟨sl, hs, hrow⟩ := hat q hqn
           have htk : R2.take (q + 1) = R2.take q ++ [R2[q]] := Z8 hqn
           obtain ⟨l, hl⟩ : ∃ l, l = R2[q] := ⟨_, rfl⟩
           rw [<- hl] at hrow htk
           obtain ⟨al, cl, hsl, _⟩ := id hrow
           subst hsl
           have htq : st.cons ++ (R2.take (q + 1)).map (Z7o x) = (st.cons ++ (R2.take q).map (Z7o x)) ++ [Z7o x l] := by rw [htk, ZD, List.append_assoc]; rfl
           have hTql : (st.cons ++ (R2.take q).map (Z7o x)).length = st.cons.length + q := by rw [ZC, Z7, List.length_take]; omega
           obtain ⟨tq', htq'⟩ : ∃ l, l = st.cons ++ (R2.take (q + 1)).map (Z7o x) := ⟨_, rfl⟩
           obtain ⟨tq, htq0⟩ : ∃ l, l = st.cons ++ (R2.take q).map (Z7o x) := ⟨_, rfl⟩
           rw [<- htq', <- htq0] at htq
           rw [<- htq0] at hTql hP
           have HTQ := Z0 htq
           have HTQ' := Z0 htq'
           obtain ⟨at', ct', hvt⟩ := hP.l.c.form
           subst hvt
           obtain ⟨z0, z1, z2⟩ := cells3 hP.l.cell
           obtain ⟨c0, c1, c2, c3⟩ := Z0D hP.n
           have hPa := hP.below ((Z9 wi2.1.size wi2).alloc (Z1 _) (.cells #[.int .i64 x.lvl, .slice al l.length cl] 114))
           obtain ⟨L, hL, hLr, hLo⟩ := hPa.l.c
           have hLn : L.length = st.cons.length + q := by
            have := congrArg List.length hL
            rw [Z7] at this
            omega
           have hrow' := hrow.below ((Z9 wi2.1.size wi2).alloc (Z1 _) (.cells #[.int .i64 x.lvl, .slice al l.length cl] 114))
           have HROW' := Z0 hrow'
           have HPA := Z0 hPa
           have HLo := Z0 hLo
           have HLr := Z0 hLr
           have HL := Z0 hL
           have hzs := hPa.b.size
           have HZS := Z0 hzs
           have HLA : Hid (OwnsLL (wi2.alloc (.cells #[.int .i64 x.lvl, .slice al l.length cl] 114)) wg.1.size (.slice (some ⟨g11, 0, none⟩) R2.length c11) R2) := hLL.below ((Z9 wi2.1.size wi2).alloc (Z1 _) _)
           clear hl hat hP hLL hrow htk hPa hrow' hLo hLr hL hzs htq htq' htq0 hTql
           go_wp2_with (at_builtin; refine wpList_append_own _ rfl _ _ 50 rfl wg.1.size 114 j2 (.agg #[.int .i64 0, .slice none 0 0]) 2 32 Tryz.underlying50 HJC.out.1 HJC.out.2.1 HJC.out.2.2.1 HJC.out.2.2.2 rfl (by decide) _ L.length _ rfl HLo.out ⟨wi2.1.size, 0, none⟩ 1 1 [.int .i64 x.lvl, .slice al l.length cl] rfl rfl (Z0f _ _ _) (by simp [Value.oneCell']) (by unfold maxLen; omega) (by omega) HZS.out ?_; intro v8 w8 hown hgrow _; have ho8 := OwnsX.add (ids := fun t : Con => t.ts) (x := Z7o x l) HL.out (by decide) HLr.out HROW'.out HLo.out hgrow hown; (rw [<- HTQ.out] at ho8); obtain ⟨a9, c9, hv8⟩ := ho8.form; subst hv8; obtain ⟨hp9, hfz8, hc8⟩ := HPA.out.addC hgrow ho8; have HP9 := Z0 hp9; have HL9 := Z0 (HPA.out.rowsC hgrow HLA.out (.slice a9 tq'.length c9)); clear ho8 hp9 hown)
           go_roundw
           case rel =>
            refine ⟨q + 1, .slice a9 tq'.length c9, by omega, by go_num, ?_, HL9.out⟩
            rw [<- HTQ'.out]
            exact HP9.out
           case measure => simp [intOf]; omega
          ·have hqe : q = R2.length := by omega
           subst hqe
           rw [List.take_length] at HP2
           obtain ⟨z0, z1, z2⟩ := cells3 HP2.out.l.cell
           clear hLL HLL hP hqn hq
           go_wp2_with fail
           go_roundw
           case rel =>
            refine ⟨j + 1, .slice a8 bs.length c8, .slice av1 ts.length cv1, vc', by omega, by go_num, by rw [HYY.out], HP2.out.b, ?_⟩
            rw [HYY.out]
            exact HP2.out.l
           case measure => simp [intOf]; omega
        ·have hn := HN.out (hc.1 rfl)
         have HNO := Z0 hn
         clear hc hn
         go_wp2_with fail
         go_roundw
         case rel =>
          refine ⟨j + 1, .slice a8 bs.length c8, .slice av1 ts.length cv1, vc, by omega, by go_num, by rw [HNO.out], HPK.out.b, ?_⟩
          rw [HNO.out]
          exact HPK.out.l
         case measure => simp [intOf]; omega
    ·obtain rfl : j = Gs.length := by omega
     obtain ⟨ab, cb, hvb⟩ := hL.b.form
     obtain ⟨at', ct, hvt⟩ := hL.t.form
     obtain ⟨ac, cc, hvc⟩ := hL.c.form
     have HL := Z0 hL
     have h3o : Below w3.1.size w3 wo := HBG3.out.trans (hB.mono HBG3.out.size)
     have hwo : Below w.1.size w wo := HB3.out.trans (h3o.mono HB3.out.size)
     subst hvb hvt hvc
     obtain ⟨z0, z1, z2⟩ := cells3 hL.cell
     have hres := HL8.out wo h3o
     obtain ⟨c0, c1, c2⟩ := cells3 hres
     have f0 := HFR.out wo h3o 0
     have f1 := HFR.out wo h3o 1
     have f2 := HFR.out wo h3o 2
     have HRES := Z0 hres
     have HWO := Z0 hwo
     have HWG := HBGW.out.size
     clear hL hres h3o hwo
     go_wp2_with fail
     refine bodyPost_ret (Z5B rfl _ _ (w.1.size + 1 + 1) 52 _ (0, 0) _ (.int .i64 0) rfl rfl (ZhF HRES.out) Tryz.underlying52 rfl (by kernel_rfl)) rfl ?_
     exact ⟨_, _, _, rfl, ((HWO.out.setCell (p := ⟨w.1.size + 1 + 1, 0, none⟩) (Nat.le_add_right _ 2) _).setCell (p := ⟨w.1.size + 1 + 1, 1, none⟩) (Nat.le_add_right _ 2) _).setCell (p := ⟨w.1.size + 1 + 1, 2, none⟩) (Nat.le_add_right _ 2) _,
      (Z8r HL.out.b (by decide) HRES.out).mono HWG, (Z8r HL.out.t (by decide) HRES.out).mono HWG, (Z8r HL.out.c (by decide) HRES.out).mono HWG⟩
theorem IsB.true {v : Value} {P : Prop} (h : IsB v P) (hp : P) : v = .bool .true := by
 obtain ⟨r, rfl, hr⟩ := h
 rw [hr.2 hp]
theorem IsB.false {v : Value} {P : Prop} (h : IsB v P) (hp : ¬ P) : v = .bool .false := by
 obtain ⟨r, rfl, hr⟩ := h
 cases r
 ·rfl
 ·exact absurd (hr.1 rfl) hp
theorem Tryz.infoSt : (Tryz.prog.info? 9).map (fun i => (i.zero, i.size, i.bytes)) = some (some (.string ⟨#[]⟩), 1, 16) := by kernel_rfl
def StrsAt (w : World) (g : Nat) (xs : List ByteArray) : Prop := w.1[g]? = some (.cells (xs.map Value.string).toArray 9 (0, 0))
theorem StrsAt.lt {w : World} {g : Nat} {xs : List ByteArray} (h : StrsAt w g xs) : g < w.1.size := (Z5.1 h).1
theorem StrsAt.below {w w' : World} {g B : Nat} {xs : List ByteArray} (h : StrsAt w g xs) (hb : Below B w w') (hg : g < B) : StrsAt w' g xs := (hb.block g hg).trans h
theorem StrsAt.free {w : World} {g : Nat} {xs : List ByteArray} (h : StrsAt w g xs) (i : Nat) : w.frozen? ⟨g, i, none⟩ = .false := by
 unfold StrsAt at h
 simp [World.frozen?, h]
theorem StrsAt.cell {w : World} {g : Nat} {xs : List ByteArray} (h : StrsAt w g xs) {i : Nat} (hi : i < xs.length) : w.cell? ⟨g, i, none⟩ = some (.string xs[i]) := by
 unfold StrsAt at h
 simp [World.cell?, h, hi]
theorem StrsAt.set {w : World} {g : Nat} {xs : List ByteArray} (h : StrsAt w g xs) (i : Nat) (x : ByteArray) : StrsAt (w.setCell ⟨g, i, none⟩ (.string x)) g (xs.set i x) := by
 have hl := h.lt
 unfold StrsAt at *
 simp only [World.setCell, Array.getElem?_modify, if_pos, h, Option.map_some, List.map_set]
 simp
theorem StrsAt.rd {w : World} {g : Nat} {xs : List ByteArray} (h : StrsAt w g xs) (cap : Nat) : ReadsT w (.slice (some ⟨g, 0, none⟩) xs.length cap) xs :=
 ⟨_, cap, rfl, fun _ => ⟨g, 0, rfl, h.lt, fun i hi => by rw [Nat.zero_add]; exact h.cell hi⟩⟩
theorem ZeE (w : World) (n : Nat) : StrsAt (w.alloc (.cells (madeCells #[Value.string ⟨#[]⟩] n) 9)) w.1.size (List.replicate n noB) := by
 have e : madeCells #[Value.string ⟨#[]⟩] n = ((List.replicate n noB).map Value.string).toArray := by
  apply Array.toList_inj.1
  rw [toList_madeCells_one]
  simp [noB]
 unfold StrsAt
 rw [e]
 exact Z01 w _
theorem Zcg {ls : List Lev} {m : Mai} (h : HasPlan ls m) (v vp vz vb vt vc : Value) (zs : List Int) (k : Pck) (l : Lod) (w : World) (hr : RdLevs w v ls) (hrp : RdPces w vp m.ps) (hz : RdInts w vz zs) (hzl : zs.length = m.ps.length) (hn : Z1g ls.length zs = true) (hA : Zab ls m zs k = 0)
 (hrl : RdLod w vb vt vc l) (hs : SmallL l) (hid : ∀ b ∈ l.buns, ∀ i ∈ b.ids, 0 <= i /\ i <= 999999) :
 Calls Tryz.prog 37 #[v, Z22 m vp, vz, Z3I k, Zdq vb vt vc] w fun e w' => ∃ u, e = .returned (.tuple #[u, .int .i64 0]) /\ Below w.1.size w w' /\
  IsB u (LodOk k m.ps zs (Z5Q zs (Z0Y ls (Z06 m.ps) ls.length) m.ps.length (Z0Y ls (Z06 m.ps) ls.length).length) l) := by
 have hpl := h.few
 have hll := Z0z h.right
 have hgf := h.groups_few
 obtain ⟨hidg, hup⟩ := Z8z h.mail
 have hcl : (Z06 m.ps).length = m.ps.length := Z1w _
 have hG : GrpsIn m.ps (Z0Y ls (Z06 m.ps) ls.length) := Zb7 hcl
 have HAL := Z0 (fun W (hW : Below w.1.size w W) => Z75 ls v vp vz m zs k W (hr.below hW) (Z1q h.right) (by omega) (hrp.below hW) h.rng h.org (by omega) (fun p hp => by have := Z0s ((Z1F h.mail).2 p hp); unfold maxLen; omega) (hz.below hW) (by omega))
 rw [hA] at HAL
 have HGO := Z0 (fun W (hW : Below w.1.size w W) => Z6N h (hr.below hW) (hrp.below hW))
 have hitl : ∀ x ∈ Z0Y ls (Z06 m.ps) ls.length, x.items.length <= 2000 /\ ∀ i ∈ x.items, 0 <= i /\ i.toNat < m.ps.length := fun x hx => by
  refine ⟨?_, (hG.items x hx).2⟩
  obtain ⟨mm, n, _, _, rfl⟩ := Z20.1 hx
  have := Z6D ls (Z06 m.ps) mm n
  show (itm ls (Z06 m.ps) mm n).length <= 2000
  omega
 obtain ⟨Gs, hGs⟩ : ∃ Gs, Gs = Z0Y ls (Z06 m.ps) ls.length := ⟨_, rfl⟩
 rw [<- hGs] at hgf HGO hitl ⊢
 have hnl := Z8v zs Gs m.ps.length Gs.length (Z1 _)
 have HBR := Z0 (fun W vn (hW : Below w.1.size w W) (hn : ReadsT W vn (Z5Q zs Gs m.ps.length Gs.length)) => Z5G k l m zs (Z5Q zs Gs m.ps.length Gs.length) vp vz vn vb vt vc W (hrp.below hW) (hz.below hW) hn (hrl.below hW) hs hup hpl hzl hnl (fun p hp => by have := hidg p hp; omega) hid)
 have HTR := Z0 (fun W (hW : Below w.1.size w W) => Z7d k l vb vt vc W (hrl.below hW) hs)
 have HCR := Z0 (fun W (hW : Below w.1.size w W) => Z41 k l vb vt vc W (hrl.below hW) hs)
 have HNS := Z0 (fun q (hq : q < Gs.length) => Z9v zs Gs m.ps.length hq)
 have HNL := Z0 (fun q (hq : q <= Gs.length) => Z8v zs Gs m.ps.length q hq)
 have HN0 : Hid (Z5Q zs Gs m.ps.length 0 = List.replicate m.ps.length noB) := Z0 rfl
 have hOK : BunsOk k m.ps zs (Z5Q zs Gs m.ps.length Gs.length) l.buns -> TrasOk k l -> ConsOk k l -> LodOk k m.ps zs (Z5Q zs Gs m.ps.length Gs.length) l := fun a b c => ⟨a, b, c⟩
 have hB1 : LodOk k m.ps zs (Z5Q zs Gs m.ps.length Gs.length) l -> BunsOk k m.ps zs (Z5Q zs Gs m.ps.length Gs.length) l.buns := fun a => a.buns
 have hB2 : LodOk k m.ps zs (Z5Q zs Gs m.ps.length Gs.length) l -> TrasOk k l := fun a => a.tras
 have hB3 : LodOk k m.ps zs (Z5Q zs Gs m.ps.length Gs.length) l -> ConsOk k l := fun a => a.cons
 obtain ⟨PB, hPB⟩ : ∃ P, P = BunsOk k m.ps zs (Z5Q zs Gs m.ps.length Gs.length) l.buns := ⟨_, rfl⟩
 obtain ⟨PT, hPT⟩ : ∃ P, P = TrasOk k l := ⟨_, rfl⟩
 obtain ⟨PC, hPC⟩ : ∃ P, P = ConsOk k l := ⟨_, rfl⟩
 obtain ⟨PL, hPL⟩ : ∃ P, P = LodOk k m.ps zs (Z5Q zs Gs m.ps.length Gs.length) l := ⟨_, rfl⟩
 rw [<- hPB] at HBR hOK hB1
 rw [<- hPT] at HTR hOK hB2
 rw [<- hPC] at HCR hOK hB3
 rw [<- hPL] at hOK hB1 hB2 hB3 ⊢
 have HZ := Z0 hz
 obtain ⟨az, cz, rfl, hzc⟩ := hz
 obtain ⟨av, cv, rfl, _⟩ := hrp
 have HZC := Z0 hzc
 have HITL := Z0 hitl
 have HZL := Z0 hzl
 have HOK := Z0 (And.intro hOK (And.intro hB1 (And.intro hB2 hB3)))
 obtain ⟨nmF, hnm⟩ : ∃ f : Nat -> List ByteArray, f = Z5Q zs Gs m.ps.length := ⟨_, rfl⟩
 rw [<- hnm] at HBR HNS HNL HN0
 clear hcl hG hidg hup hr hrl hs hid hn hA h hzc hOK hB1 hB2 hB3 hPB hPT hPC hPL hnm hitl hGs hnl hzl
 unfold Z22 Z3I Zdq at *
 obtain ⟨kp, kg, kb, kt⟩ := k
 obtain ⟨cls, ctr, org, ps⟩ := m
 dsimp only at *
 obtain ⟨w3, hw3⟩ : ∃ w3, w3 = ((w.alloc (.cells #[.int .u8 cls, .int .u8 ctr, .string org, .slice av ps.length cv] 34)).alloc (.cells #[.int .i64 kp, .int .i64 kg, .int .i64 kb, .int .i64 kt] 37)).alloc (.cells #[vb, vt, vc] 52) := ⟨_, rfl⟩
 obtain ⟨g1, g2, g3⟩ := Za7 hw3
 have hz3 : w3.1.size = w.1.size + 1 + 1 + 1 := by rw [hw3, Z6, Z6, Z6]
 have hb3 : Below w.1.size w w3 := by
  rw [hw3]
  exact (((Z9 _ w).alloc (Z1 _) _).alloc (by simp) _).alloc (by simp; omega) _
 have HBX := Z0 (fun (W : World) (hB : Below w3.1.size w3 W) => And.intro (Z0D ((hB.block _ (by omega)).trans g1)) (And.intro (Z0D ((hB.block _ (by omega)).trans g2)) (cells3 ((hB.block _ (by omega)).trans g3))))
 have HW3 := Z0 hw3
 have HB3 := Z0 hb3
 clear hw3 hb3 hz3 g1 g2 g3
 obtain ⟨⟨x0, x1, x2, x3⟩, ⟨y0, y1, y2, y3⟩, _⟩ := HBX.out w3 (Z9 _ _)
 go_enter Tryz.func37, Tryz.ntmps37
 go_upto_region 1 with fail
 rw [<- HW3.out]
 go_upto_region 7 with (first
  | (go_at_call 29; refine (HAL.out _ HB3.out).mono ?_; rintro e w4 ⟨rfl, hb4⟩; obtain ⟨⟨p0, p1, p2, p3⟩, ⟨q0, q1, q2, q3⟩, _⟩ := HBX.out w4 hb4; have hw4 := HB3.out.trans (hb4.mono HB3.out.size))
  | (go_at_call 30; refine (HGO.out _ hw4).mono ?_; rintro e wg ⟨ag, cg, rfl, hbg, hrg⟩; have HBG3 := Z0 (hb4.trans (hbg.mono hb4.size)); have HBGW := Z0 (hw4.trans (hbg.mono hw4.size)); have HRG := Z0 hrg; clear hbg hrg))
 clear p0 p1 p2 p3 q0 q1 q2 q3 hb4 hw4 x0 x1 x2 x3 y0 y1 y2 y3
 obtain ⟨⟨x0, x1, x2, x3⟩, _, _⟩ := HBX.out wg HBG3.out
 have hmk := fun W => run_make_row' (P := Tryz.prog) 84 9 (.string ⟨#[]⟩) 16 Tryz.underlying84 Tryz.infoSt rfl .i64 .i64 ps.length (by omega) (by omega) W
 obtain ⟨w5, hw5⟩ : ∃ w5, w5 = wg.alloc (.cells (madeCells #[Value.string ⟨#[]⟩] ps.length) 9) := ⟨_, rfl⟩
 have hst : StrsAt w5 wg.1.size (nmF 0) := by rw [hw5, HN0.out]; exact ZeE wg ps.length
 have hb5 : Below wg.1.size wg w5 := by rw [hw5]; exact (Z9 _ _).alloc (Z1 _) _
 have HST := Z0 hst
 have HB5 := Z0 hb5
 have HW5 := Z0 hw5
 clear hst hb5 hw5
 go_upto_region 8 with fail
 rw [<- HW5.out]
 clear hmk x0 x1 x2 x3
 go_wp2_with fail
 go_loopw [43] (fun i wx => ∃ j : Nat, j <= Gs.length /\ i = .int .i64 j /\ Below wg.1.size wg wx /\ StrsAt wx wg.1.size (nmF j)) (fun i _ => Gs.length - (intOf i).toNat)
 case atStart => exact ⟨0, ZE _, rfl, HB5.out, HST.out⟩
 case round =>
  obtain ⟨wo, hwo⟩ : ∃ x, x = wr := ⟨_, rfl⟩
  subst hwo
  obtain ⟨j, hj, rfl, hB, hS⟩ := hrel
  have HB := Z0 hB
  have HS := Z0 hS
  by_cases hlt : j < Gs.length
  ·obtain ⟨gg, og, rfl, hgg, hcg⟩ := RdGrps.lies HRG.out (by omega)
   obtain ⟨sv, hsv, hgat⟩ := hcg j hlt
   have hns := HNS.out j hlt
   have hnl := HNL.out j hj
   obtain ⟨hil, hit⟩ := HITL.out _ (Z4 hlt)
   obtain ⟨x, hx⟩ : ∃ x, x = Gs[j] := ⟨_, rfl⟩
   rw [<- hx] at hsv hgat hns hil hit
   have hsv2 := hsv.below hB
   obtain ⟨asx, csx, hsf, hsx⟩ := id hsv
   subst hsf
   obtain ⟨g0, g1, g2, g3⟩ := hgat.below hB hgg
   obtain ⟨Wq, hWq⟩ : ∃ W, W = wo.alloc (.cells #[.int .i64 x.lvl, .string x.name, .int .i64 x.up, .slice asx x.items.length csx] 107) := ⟨_, rfl⟩
   have hbq : Below wo.1.size wo Wq := by rw [hWq]; exact (Z9 _ _).alloc (Z1 _) _
   have hNq : Wq.1[wo.1.size]? = some (.cells #[.int .i64 x.lvl, .string x.name, .int .i64 x.up, .slice asx x.items.length csx] 107 (0, 0)) := by rw [hWq]; exact Z01 wo _
   have HWQ := Z0 hWq
   have HNQ := Z0 hNq
   have HBQ := Z0 (hB.trans (hbq.mono hB.size))
   have HSQ := Z0 (hS.below hbq hS.lt)
   have HNE : Hid (wo.1.size ≠ wg.1.size) := Z0 (fun e => by have := hS.lt; omega)
   have HSX := Z0 hsx
   have HIT := Z0 hit
   have HNS2 := Z0 hns
   have HNL2 := Z0 hnl
   obtain ⟨n0, n1, n2, n3⟩ := Z0D hNq
   clear hx hcg hgat hsv2 hWq hbq hNq hns hnl hit hsx hS hB hsv
   go_upto_region 11 with fail
   rw [<- HWQ.out]
   go_wp2_with fail
   go_loopw [50] (fun i wx => ∃ p : Nat, p <= x.items.length /\ i = .int .i64 p /\ Below wg.1.size wg wx /\ wx.1[wo.1.size]? = some (.cells #[.int .i64 x.lvl, .string x.name, .int .i64 x.up, .slice asx x.items.length csx] 107 (0, 0)) /\ StrsAt wx wg.1.size (nmI zs x (nmF j) (x.items.take p))) (fun i _ => x.items.length - (intOf i).toNat)
   case atStart => exact ⟨0, ZE _, rfl, HBQ.out, HNQ.out, HSQ.out⟩
   case round =>
    clear n0 n1 n2 n3 g0 g1 g2 g3
    obtain ⟨wi, hwi⟩ : ∃ x, x = wr := ⟨_, rfl⟩
    subst hwi
    obtain ⟨p, hp, rfl, hBi, hNi, hSi⟩ := hrel
    have HBI := Z0 hBi
    have HNI := Z0 hNi
    by_cases hlp : p < x.items.length
    ·obtain ⟨gs, os, rfl, hgs, hcs⟩ := HSX.out (by omega)
     have e1 := (hBi.cell (p := ⟨gs, os + p, none⟩) hgs).trans (hcs p hlp)
     obtain ⟨i0, i1⟩ := HIT.out _ (Z4 hlp)
     have htk : x.items.take (p + 1) = x.items.take p ++ [x.items[p]] := Z8 hlp
     have hsn := Zgq zs x (nmF j) (x.items.take p) x.items[p]
     rw [<- htk] at hsn
     obtain ⟨it, hite⟩ : ∃ it, it = x.items[p] := ⟨_, rfl⟩
     rw [<- hite] at e1 i0 i1 hsn
     obtain ⟨q, rfl⟩ : ∃ q : Nat, it = (q : Int) := ⟨it.toNat, (Int.toNat_of_nonneg i0).symm⟩
     rw [Int.toNat_natCast] at i1
     unfold Z5r at hsn
     rw [Int.toNat_natCast] at hsn
     have hqz : q < zs.length := by rw [HZL.out]; exact i1
     obtain ⟨gz, oz, rfl, hgz, hcz⟩ := HZC.out (by omega)
     have e2 := ((HBGW.out.trans (hBi.mono HBGW.out.size)).cell (p := ⟨gz, oz + q, none⟩) hgz).trans (hcz q hqz)
     have hzd : zs.getD q (-1) = zs[q] := by rw [Z2, Z3 hqz]; rfl
     rw [hzd] at hsn
     obtain ⟨z, hze⟩ : ∃ z, z = zs[q] := ⟨_, rfl⟩
     rw [<- hze] at hsn e2
     have hnlq : q < (nmI zs x (nmF j) (x.items.take p)).length := by rw [ZaL, HNL2.out]; exact i1
     obtain ⟨ns, hns⟩ : ∃ ns, ns = nmI zs x (nmF j) (x.items.take p) := ⟨_, rfl⟩
     rw [<- hns] at hsn hSi hnlq
     have HSN := Z0 hsn
     have HSI := Z0 hSi
     have HNLQ := Z0 hnlq
     obtain ⟨n0, n1, n2, n3⟩ := Z0D hNi
     clear hcs htk hsn hite hcz hzd hze hns hnlq hNi hBi hSi
     by_cases hzl : z = x.lvl
     ·have hbq : (z == x.lvl) = .true := by simp [hzl]
      have hst := HSN.out
      rw [if_pos hzl] at hst
      have HST2 := Z0 hst
      clear hst hzl
      go_wp2_with fail
      go_quiet (fail)
      obtain ⟨wd, hwd⟩ : ∃ wd, wd = wi.drewN nq := ⟨_, rfl⟩
      rw [<- hwd]
      have hbd : Below wi.1.size wi wd := by rw [hwd]; exact below_drewN (Z9 _ _) _
      have hsd := HSI.out.below hbd HSI.out.lt
      have hnd := (hbd.block _ (Z5.1 HNI.out).1).trans HNI.out
      have c1 := hsd.cell HNLQ.out
      have c2 := hsd.free q
      obtain ⟨n0, n1, n2, n3⟩ := Z0D hnd
      have HSD := Z0 hsd
      have HND := Z0 hnd
      have HBD := Z0 (HBI.out.trans (hbd.mono HBI.out.size))
      clear hwd hbd hsd hnd e1 e2
      go_wp2_with fail
      go_roundw
      case rel =>
       refine ⟨p + 1, by omega, by go_num, HBD.out.setCell (p := ⟨wg.1.size, q, none⟩) (Z1 _) _, (Z4c HNE.out).trans HND.out, ?_⟩
       rw [HST2.out]
       exact HSD.out.set q _
      case measure => simp [intOf]; omega
     ·have hbq : (z == x.lvl) = .false := by simp [hzl]
      have hst := HSN.out
      rw [if_neg hzl] at hst
      have HST2 := Z0 hst
      clear hst hzl
      go_wp2_with fail
      go_quiet (fail)
      obtain ⟨wd, hwd⟩ : ∃ wd, wd = wi.drewN nq := ⟨_, rfl⟩
      rw [<- hwd]
      have hbd : Below wi.1.size wi wd := by rw [hwd]; exact below_drewN (Z9 _ _) _
      have HSD := Z0 (HSI.out.below hbd HSI.out.lt)
      have HND := Z0 ((hbd.block _ (Z5.1 HNI.out).1).trans HNI.out)
      have HBD := Z0 (HBI.out.trans (hbd.mono HBI.out.size))
      clear hwd hbd e1 e2
      go_wp2_with fail
      go_roundw
      case rel =>
       refine ⟨p + 1, by omega, by go_num, HBD.out, HND.out, ?_⟩
       rw [HST2.out]
       exact HSD.out
      case measure => simp [intOf]; omega
    ·obtain rfl : p = x.items.length := by omega
     rw [List.take_length] at hSi
     have HSI := Z0 hSi
     clear hSi hBi hNi
     go_wp2_with fail
     go_roundw
     case rel => exact ⟨j + 1, by omega, by go_num, HBI.out, by rw [HNS2.out]; exact HSI.out⟩
     case measure => simp [intOf]; omega
  ·obtain rfl : j = Gs.length := by omega
   have hwo : Below w.1.size w wo := HBGW.out.trans (hB.mono HBGW.out.size)
   have h3o : Below w3.1.size w3 wo := HBG3.out.trans (hB.mono HBG3.out.size)
   have hnl := HNL.out Gs.length (Z1 _)
   have hrd := hS.rd ps.length
   rw [hnl] at hrd
   have HWO := Z0 hwo
   have H3O := Z0 h3o
   have HRD := Z0 hrd
   clear hS hnl hrd hwo h3o hB hj hlt
   go_upto_region 18 with fail
   obtain ⟨⟨p0, p1, p2, p3⟩, ⟨q0, q1, q2, q3⟩, r0, r1, r2⟩ := HBX.out wo H3O.out
   by_cases hb : PB
   ·have HPB := Z0 hb
    clear hb
    by_cases ht : PT
    ·have HPT := Z0 ht
     clear ht
     by_cases hc : PC
     ·have hy : PL := HOK.out.1 HPB.out HPT.out hc
      have HPC := Z0 hc
      have HY := Z0 hy
      clear hc hy
      go_wp2_with (first
       | (go_at_call 77; refine (HBR.out wo _ HWO.out HRD.out).mono ?_; rintro e w6 ⟨u, rfl, hb6, hu⟩; have hu := hu.true HPB.out; subst hu; have hw6 := HWO.out.trans (hb6.mono HWO.out.size); obtain ⟨_, ⟨s0, s1, s2, s3⟩, t0, t1, t2⟩ := HBX.out w6 (H3O.out.trans (hb6.mono H3O.out.size)))
       | (go_at_call 78; refine (HTR.out w6 hw6).mono ?_; rintro e w7 ⟨u, rfl, hb7, hu⟩; have hu := hu.true HPT.out; subst hu; have hw7 := hw6.trans (hb7.mono hw6.size); have h37 := H3O.out.trans ((hb6.trans (hb7.mono hb6.size)).mono H3O.out.size); obtain ⟨_, ⟨o0, o1, o2, o3⟩, v0, v1, v2⟩ := HBX.out w7 h37)
       | (go_at_call 79; refine (HCR.out w7 hw7).mono ?_; rintro e w8 ⟨u, rfl, hb8, hu⟩; have hu := hu.true HPC.out; subst hu))
      go_ret2
      exact ⟨_, rfl, hw7.trans (hb8.mono hw7.size), IsB.yes HY.out⟩
     ·have hno : ¬ PL := fun h => hc (HOK.out.2.2.2 h)
      have HPC := Z0 hc
      have HNO := Z0 hno
      clear hc hno
      go_wp2_with (first
       | (go_at_call 77; refine (HBR.out wo _ HWO.out HRD.out).mono ?_; rintro e w6 ⟨u, rfl, hb6, hu⟩; have hu := hu.true HPB.out; subst hu; have hw6 := HWO.out.trans (hb6.mono HWO.out.size); obtain ⟨_, ⟨s0, s1, s2, s3⟩, t0, t1, t2⟩ := HBX.out w6 (H3O.out.trans (hb6.mono H3O.out.size)))
       | (go_at_call 78; refine (HTR.out w6 hw6).mono ?_; rintro e w7 ⟨u, rfl, hb7, hu⟩; have hu := hu.true HPT.out; subst hu; have hw7 := hw6.trans (hb7.mono hw6.size); have h37 := H3O.out.trans ((hb6.trans (hb7.mono hb6.size)).mono H3O.out.size); obtain ⟨_, ⟨o0, o1, o2, o3⟩, v0, v1, v2⟩ := HBX.out w7 h37)
       | (go_at_call 79; refine (HCR.out w7 hw7).mono ?_; rintro e w8 ⟨u, rfl, hb8, hu⟩; have hu := hu.false HPC.out; subst hu))
      go_ret2
      exact ⟨_, rfl, hw7.trans (hb8.mono hw7.size), IsB.no HNO.out⟩
    ·have hno : ¬ PL := fun h => ht (HOK.out.2.2.1 h)
     have HPT := Z0 ht
     have HNO := Z0 hno
     clear ht hno
     go_wp2_with (first
      | (go_at_call 77; refine (HBR.out wo _ HWO.out HRD.out).mono ?_; rintro e w6 ⟨u, rfl, hb6, hu⟩; have hu := hu.true HPB.out; subst hu; have hw6 := HWO.out.trans (hb6.mono HWO.out.size); obtain ⟨_, ⟨s0, s1, s2, s3⟩, t0, t1, t2⟩ := HBX.out w6 (H3O.out.trans (hb6.mono H3O.out.size)))
      | (go_at_call 78; refine (HTR.out w6 hw6).mono ?_; rintro e w7 ⟨u, rfl, hb7, hu⟩; have hu := hu.false HPT.out; subst hu))
     go_ret2
     exact ⟨_, rfl, hw6.trans (hb7.mono hw6.size), IsB.no HNO.out⟩
   ·have HNB := Z0 hb
    have hno : ¬ PL := fun h => hb (HOK.out.2.1 h)
    have HNO := Z0 hno
    clear hb hno
    go_wp2_with (go_at_call 77; refine (HBR.out wo _ HWO.out HRD.out).mono ?_; rintro e w6 ⟨u, rfl, hb6, hu⟩; have hu := hu.false HNB.out; subst hu)
    go_ret2
    exact ⟨_, rfl, Z00 HWO.out HWO.out.size hb6, IsB.no HNO.out⟩
end Go.Proofs.YtlgajongmkhcnaaGreatDoor
namespace Go.Proofs.YtlgajongmkhcnaaGreatDoor
open Go.RowKit
set_option maxRecDepth 100000
noncomputable def ZeH (k : Pck) (ps : List Pce) (zs : List Int) (Gs : List Grp) : Lod := ⟨(Z1Y k ps zs Gs Gs.length).buns, (Z1Y k ps zs Gs Gs.length).tras, (Z1Y k ps zs Gs Gs.length).cons⟩
structure Pkd (k : Pck) (ps : List Pce) (zs : List Int) (ns : List ByteArray) (l : Lod) : Prop where
 ok : LodOk k ps zs ns l
 ord : l.buns.Pairwise BunLe
 own : ∀ b ∈ l.buns, b.ids ≠ [] /\ b.ids.Pairwise (· < ·) /\ ∀ i ∈ b.ids, 0 < i /\ i <= 999999
 nb : l.tras.flatMap (fun t => t.bs) = Z11 0 l.buns.length
 nt : l.cons.flatMap (fun c => c.ts) = Z11 0 l.tras.length
 bf : ∀ a b, Z1T l.buns a b -> a.lvl = b.lvl -> a.grp = b.grp -> ∃ i : Int, 0 <= i /\ i.toNat < ps.length /\ b.ids.head? = some (Z17 ps i).id /\ ¬ ((a.ids.length : Int) < k.pieces /\ a.grams + (Z17 ps i).grams <= k.grams)
 tf : ∀ a b, Z1T l.tras a b -> a.lvl = b.lvl -> a.grp = b.grp -> (a.bs.length : Int) = k.bundles
 cf : ∀ a b, Z1T l.cons a b -> a.lvl = b.lvl -> (a.ts.length : Int) = k.trays
 lens : l.buns.length <= ps.length /\ l.tras.length <= ps.length /\ l.cons.length <= ps.length
 idn : (l.buns.flatMap (fun b => b.ids)).length = ps.length
theorem Zef {ps : List Pce} {i : Int} (h : i.toNat < ps.length) : Z17 ps i ∈ ps := by
 unfold Z17
 rw [Z2, Z3 h]
 exact Z4 h
theorem Z9p {ls : List Lev} {m : Mai} (h : HasPlan ls m) {zs : List Int} (hzl : zs.length = m.ps.length) (hn : Z1g ls.length zs = true) {k : Pck} (hk : Z7f k = true) (hkg : ∀ p ∈ m.ps, p.grams <= k.grams) :
 Pkd k m.ps zs (Z5Q zs (Z0Y ls (Z06 m.ps) ls.length) m.ps.length (Z0Y ls (Z06 m.ps) ls.length).length) (ZeH k m.ps zs (Z0Y ls (Z06 m.ps) ls.length)) := by
 obtain ⟨hidg, hu⟩ := Z8z h.mail
 have hcl : (Z06 m.ps).length = m.ps.length := Z1w _
 have hG : GrpsIn m.ps (Z0Y ls (Z06 m.ps) ls.length) := Zb7 hcl
 have hO : OwnIn m.ps zs (Z0Y ls (Z06 m.ps) ls.length) := Zc7 hcl hzl hn
 have hkk : (1 <= k.pieces /\ k.pieces <= 2000 /\ 1 <= k.grams /\ k.grams <= 1000000) /\ (1 <= k.bundles /\ k.bundles <= 200 /\ 1 <= k.trays /\ k.trays <= 200) := by
  unfold Z7f at hk
  rw [ZF, decide_eq_true_eq, decide_eq_true_eq] at hk
  exact hk
 obtain ⟨Gs, hGs⟩ : ∃ Gs, Gs = Z0Y ls (Z06 m.ps) ls.length := ⟨_, rfl⟩
 rw [<- hGs] at hG hO ⊢
 have hk1 : 1 <= k.pieces := hkk.1.1
 have hg0 : 0 <= k.grams := by omega
 have hb1 : 1 <= k.bundles := hkk.2.1
 have ht1 : 1 <= k.trays := by omega
 have hok := Zeb hb1 ht1 m.ps zs Gs Gs.length (Z1 _)
 have hF := Z8p hb1 ht1 hG.order (ps := m.ps) (zs := zs) Gs.length (Z1 _)
 have hl := Zgd hk1 hg0 hb1 ht1 hkg hu hG hO
 have hs := ZbQ hk1 hg0 hb1 ht1 hkg hu hG hO Gs.length (Z1 _)
 have hbn := hok.buns
 rw [List.take_length] at hbn
 have hbeg := hok.fin (.inr (fun h => absurd h (Nat.lt_irrefl _)))
 refine ⟨hl, ?_, ?_, hok.nb, ?_, ?_, hF.tf, hF.cf, ⟨hs.1, hs.2.1, hs.2.2.1⟩, hl.buns.all⟩
 ·show (Z1Y k m.ps zs Gs Gs.length).buns.Pairwise BunLe
  rw [hbn]
  exact Zdn hk1 hg0 hkg hu hG
 ·show ∀ b ∈ (Z1Y k m.ps zs Gs Gs.length).buns, _
  intro b hb
  obtain ⟨I, hI, hid, _⟩ := hl.buns.good b hb
  rw [hbn] at hb
  obtain ⟨x, hx, hb⟩ := List.mem_flatMap.1 hb
  have h2 := (Z2g (zs := zs) hk1 hg0 hkg hu hG hx).2 b hb
  refine ⟨h2.2.2.1, h2.2.2.2.2.2, fun i hi => ?_⟩
  rw [hid] at hi
  obtain ⟨j, hj, rfl⟩ := List.mem_map.1 hi
  have := hidg _ (Zef (hI j hj).2.1)
  exact ⟨this.1, this.2.1⟩
 ·show (Z1Y k m.ps zs Gs Gs.length).cons.flatMap _ = Z11 0 (Z1Y k m.ps zs Gs Gs.length).tras.length
  rw [hok.nt, hbeg]
 ·show ∀ a b, Z1T (Z1Y k m.ps zs Gs Gs.length).buns a b -> _
  rw [hbn]
  intro a b hab h1 h2
  exact Zfq hk1 hg0 hkg hu hG hab h1 h2
theorem Pkd.smallL {k : Pck} {ps : List Pce} {zs : List Int} {ns : List ByteArray} {l : Lod} (h : Pkd k ps zs ns l) (hp : ps.length <= 100000) : SmallL l := by
 obtain ⟨h1, h2, h3⟩ := h.lens
 refine ⟨by omega, by omega, by omega, by rw [h.idn]; exact hp, ?_, ?_⟩
 ·rw [h.nb, Z19]; omega
 ·rw [h.nt, Z19]; omega
end Go.Proofs.YtlgajongmkhcnaaGreatDoor
