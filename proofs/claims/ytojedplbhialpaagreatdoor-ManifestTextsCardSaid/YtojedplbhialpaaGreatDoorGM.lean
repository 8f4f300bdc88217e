import Derived.Test.YtojedplbhialpaaGreatDoorGL
import Derived.BigQuiet
/-! TP -/
namespace Go.Proofs.YtojedplbhialpaaGreatDoor
open Go.RowKit Go.Sort
set_option linter.unusedVariables false
set_option maxRecDepth 100000
theorem cells2 {w : World} {g : Nat} {a b : Value} {t : TypeId} {fr : Nat × Nat} (h : w.heap[g]? = some (.cells #[a, b] t fr)) : w.cell? ⟨g, 0, none⟩ = some a ∧ w.cell? ⟨g, 1, none⟩ = some b := ⟨cell_of_row _ _ 0 _ _ _ h, cell_of_row _ _ 1 _ _ _ h⟩
set_option maxHeartbeats 16000000 in
theorem containersRight_any (k : Pck) (l : Lod) (vb vt vc : Value) (w : World) (hr : RdLod w vb vt vc l) (hs : SmallL l) :
    Calls Tryz.prog 107 #[pckV k, lodV vb vt vc] w fun e w' => ∃ v, e = .returned v ∧ Below w.heap.size w w' ∧ IsB v (ConsOk k l) := by
  obtain ⟨i0, hi⟩ := info_parts Tryz.infoSlT
  have HI := Lib.hid hi
  obtain ⟨ab, cb, hvb, hcb⟩ := hr.b
  obtain ⟨at', ct, hvt, hct⟩ := hr.t
  obtain ⟨ac, cc, hvc, hccx⟩ := hr.c
  subst hvb hvt hvc
  have hnb := hs.t
  have hnt := hs.c
  have hti := hs.ci
  have hpl := fun x hx => part_le (f := fun t : Con => t.ts) hs.ci x hx
  have HON := Lib.hid (fun W v (hb : RdLL W v (l.cons.map (fun t => t.ts))) => once_any (l.cons.map (fun t => t.ts)) l.tras.length k.trays v W hb (by omega) (by rw [flat_bs]; omega) (by rw [List.length_map]; omega))
  have hOK := fun (h : OnceOk (l.cons.map (fun t => t.ts)) l.tras.length k.trays) (h2 : ∀ t ∈ l.cons, ∀ i ∈ t.ts, ∃ b, l.tras[i.toNat]? = some b ∧ b.lvl = t.lvl) => (⟨h, h2⟩ : ConsOk k l)
  have hNO := fun (h : ConsOk k l) => h
  unfold lodV pckV
  obtain ⟨kp, kg, kb, kt⟩ := k
  obtain ⟨bs, ts, cs⟩ := l
  dsimp only at *
  obtain ⟨w2, hw2⟩ : ∃ w2, w2 = (w.alloc (.cells #[.int .i64 kp, .int .i64 kg, .int .i64 kb, .int .i64 kt] 32)).alloc (.cells #[.slice ab bs.length cb, .slice at' ts.length ct, .slice ac cs.length cc] 39) := ⟨_, rfl⟩
  obtain ⟨g1, g2, z2, b2⟩ := boxes2 hw2
  obtain ⟨x0, x1, x2⟩ := cells3 g2
  have HW2 := Lib.hid hw2
  have HB2 := Lib.hid b2
  have HL := Lib.hid (fun (W : World) (hB : Below w2.heap.size w2 W) => And.intro (cells4 ((hB.block _ (by omega)).trans g1)) (cells3 ((hB.block _ (by omega)).trans g2)))
  have HCB := Lib.hid hct
  have HCT := Lib.hid hccx
  have HOK := Lib.hid hOK
  have HPL := Lib.hid hpl
  clear hw2 g1 g2 z2 b2 hcb hct hccx hr hs hOK hNO hi hpl
  go_enter Tryz.func107, Tryz.ntmps107
  go_upto_region 1 with fail
  rw [← HW2.out]
  go_wp2_with (at_make; refine wpList_make_own _ rfl _ _ 116 rfl w2.heap.size 30 i0 (.slice none 0 0) 1 Tryz.underlying116 HI.out.1 HI.out.2.1 HI.out.2.2.1 _ _ _ cs.length rfl (by first | rfl | simp) rfl (by rw [HI.out.2.2.2]; omega) (by unfold maxLen; omega) (Nat.le_refl _) ?_; intro w3 hown hgrow; have hb3 : Below w2.heap.size w2 w3 := (Below.refl _ _).grown hgrow (Nat.le_refl _) (fun _ e => by cases e); have HB3 := Lib.hid hb3; have HO3 := Lib.hid hown; clear hgrow hown; obtain ⟨⟨u0, u1, u2, u3⟩, v0, v1, v2⟩ := HL.out w3 hb3)
  go_loopw [5, 19] (fun lv i wx => ∃ q : Nat, q ≤ cs.length ∧ i = .int .i64 q ∧ Below w2.heap.size w2 wx ∧ OwnsRL w wx w2.heap.size lv ((cs.take q).map (fun t => t.ts))) (fun _ i _ => cs.length - (intOf i).toNat)
  case atStart => exact ⟨0, Nat.zero_le _, rfl, HB3.out, ⟨[], by simp, by simp, HO3.out⟩⟩
  case round =>
    clear u0 u1 u2 u3 v0 v1 v2 hb3 x0 x1 x2
    obtain ⟨q, hq, rfl, hB, hO⟩ := hrel
    have HBB := Lib.hid hB
    by_cases hlt : q < cs.length
    · obtain ⟨g, off, rfl, hg, hcc⟩ := HCT.out (by omega)
      obtain ⟨s, hs, hcell⟩ := hcc q hlt
      have htk : (cs.take (q + 1)).map (fun t => t.ts) = (cs.take q).map (fun t => t.ts) ++ [cs[q].ts] := by rw [List.take_succ_eq_append_getElem hlt, List.map_append]; rfl
      obtain ⟨t, ht⟩ : ∃ t, t = cs[q] := ⟨_, rfl⟩
      rw [← ht] at hs hcell htk
      have hbw : Below w.heap.size w wr := HB2.out.trans (hB.mono HB2.out.size)
      have f0 : wr.cell? ⟨g, off + q * 2, none⟩ = some (.int .i64 t.lvl) := (hbw.cell (p := ⟨g, off + q * 2, none⟩) hg).trans (hcell 0 _ rfl)
      have f2 : wr.cell? ⟨g, off + q * 2 + 1, none⟩ = some s := (hbw.cell (p := ⟨g, off + q * 2 + 1, none⟩) hg).trans (hcell 1 _ rfl)
      have HS := Lib.hid hs
      obtain ⟨as1, cs', rfl, _⟩ := hs
      have HTK := Lib.hid htk
      obtain ⟨av, cv, hlv⟩ := hO.form
      have hle : ((cs.take q).map (fun t => t.ts)).length = q := by rw [List.length_map, List.length_take]; omega
      rw [hle] at hlv
      subst hlv
      obtain ⟨L, hL, hLr, hLo⟩ := hO
      have hLl : L.length = q := by rw [← hle, ← hL, List.length_map]
      subst hLl
      have HL0 := Lib.hid hL
      have HLR := Lib.hid hLr
      have hLo2 := (hLo.alloc (.cells #[.int .i64 t.lvl, .slice as1 t.ts.length cs'] 57)).alloc (.cells #[.slice as1 t.ts.length cs'] 30)
      have HLO := Lib.hid hLo2
      have HLT := Lib.hid (fun r e => (hLo.lt r e).1)
      clear ht hcell hcc hbw htk hL hLr hLo hLo2 hle hB
      go_wp2_with (at_builtin; refine wpList_append_own _ rfl _ _ 116 rfl w2.heap.size 30 i0 (.slice none 0 0) 1 24 Tryz.underlying116 HI.out.1 HI.out.2.1 HI.out.2.2.1 HI.out.2.2.2 rfl (by decide) _ L.length _ rfl HLO.out ⟨wr.heap.size + 1, 0, none⟩ 1 1 [.slice as1 t.ts.length cs'] rfl (by simp) (by simpa using cell_one_new (wr.alloc (.cells #[.int .i64 t.lvl, .slice as1 t.ts.length cs'] 57)) (.slice as1 t.ts.length cs') 30) (by simp [Value.oneCell']) (by unfold maxLen; omega) (by omega) (by have := HBB.out.size; simp; omega) ?_; intro v' w5 hown' hgrow _)
      go_roundw
      case rel =>
        refine ⟨L.length + 1, by omega, by go_num, ((HBB.out.alloc HBB.out.size _).alloc (by have := HBB.out.size; simp; omega) _).grown hgrow (by have := HBB.out.size; simp; omega) (fun r e => HLT.out r e), L ++ [(t.ts, .slice as1 t.ts.length cs')], ?_, ?_, ?_⟩
        · rw [HTK.out, List.map_append, HL0.out]; rfl
        · intro p hp
          rcases List.mem_append.1 hp with hp | hp
          · exact HLR.out p hp
          · rw [List.mem_singleton.1 hp]; exact HS.out
        · rw [List.length_append, List.map_append]
          exact hown'
      case measure => simp [intOf]; omega
    · obtain rfl : q = cs.length := by omega
      rw [List.take_length] at hO
      have hbw : Below w.heap.size w wr := HB2.out.trans (hB.mono HB2.out.size)
      have HR := Lib.hid (hO.rd hbw)
      obtain ⟨av, cv, hlv⟩ := hO.form
      rw [List.length_map] at hlv
      subst hlv
      have HBW := Lib.hid hbw
      obtain ⟨⟨u0, u1, u2, u3⟩, v0, v1, v2⟩ := HL.out wr hB
      clear hO hbw hB
      go_upto_region 7 with fail
      go_cut [36] from 29 to 36 (fun b wx => ∃ c : Bool, b = .bool (!c) ∧ (c = true ↔ OnceOk (cs.map (fun t => t.ts)) ts.length kt) ∧ Below wr.heap.size wr wx)
      case first =>
        go_wp2_with (go_at_call 176; refine (HON.out wr _ HR.out).mono ?_; rintro e w6 ⟨vv, rfl, hb6, r, rfl, hr⟩)
        go_meet
        exact ⟨r, rfl, hr, hb6⟩
      case rest =>
        clear u0 u1 u2 u3 v0 v1 v2
        obtain ⟨wp, hwp⟩ : ∃ x, x = wc := ⟨_, rfl⟩
        subst hwp
        obtain ⟨c, rfl, hc, hbc⟩ := hcut
        have HB6 := Lib.hid (HBB.out.trans (hbc.mono HBB.out.size))
        have HC := Lib.hid hc
        clear hbc hc
        cases c
        · have hr : ¬ ConsOk ⟨kp, kg, kb, kt⟩ ⟨bs, ts, cs⟩ := fun h => by have := HC.out.2 h.once; cases this
          have HRR := Lib.hid hr
          clear hr
          go_wp2_with fail
          go_ret
          exact ⟨_, rfl, HB2.out.trans (HB6.out.mono HB2.out.size), IsB.no HRR.out⟩
        · have hon := HC.out.1 rfl
          have hin := fun t (ht : t ∈ cs) i (hi : i ∈ t.ts) => hon.ins i (by rw [flat_bs]; exact List.mem_flatMap.2 ⟨t, ht, hi⟩)
          have HON2 := Lib.hid hon
          have HIN := Lib.hid hin
          obtain ⟨⟨u0, u1, u2, u3⟩, v0, v1, v2⟩ := HL.out wp HB6.out
          clear hon hin
          go_wp2_with fail
          go_loopw [40] (fun i wx => ∃ q : Nat, q ≤ cs.length ∧ i = .int .i64 q ∧ Below w2.heap.size w2 wx ∧ ∀ t ∈ cs.take q, ∀ i ∈ t.ts, ∃ b, ts[i.toNat]? = some b ∧ b.lvl = t.lvl) (fun i _ => cs.length - (intOf i).toNat)
          case atStart => exact ⟨0, Nat.zero_le _, rfl, HB6.out, by simp⟩
          case round =>
            clear u0 u1 u2 u3 v0 v1 v2
            obtain ⟨wo, hwo⟩ : ∃ x, x = wr := ⟨_, rfl⟩
            subst hwo
            obtain ⟨q, hq, rfl, hB, hal⟩ := hrel
            have HB := Lib.hid hB
            have HAL := Lib.hid hal
            clear hal
            by_cases hlt : q < cs.length
            · obtain ⟨g, off, rfl, hg, hcc⟩ := HCT.out (by omega)
              obtain ⟨s, hs, hcell⟩ := hcc q hlt
              have hbw : Below w.heap.size w wo := HB2.out.trans (hB.mono HB2.out.size)
              have hmt := List.getElem_mem hlt
              have htk : cs.take (q + 1) = cs.take q ++ [cs[q]] := List.take_succ_eq_append_getElem hlt
              have hlen := HPL.out _ hmt
              have hin := HIN.out _ hmt
              have hno : ConsOk ⟨kp, kg, kb, kt⟩ ⟨bs, ts, cs⟩ → ∀ i ∈ cs[q].ts, ∃ b, ts[i.toNat]? = some b ∧ b.lvl = cs[q].lvl := fun h => h.grp _ hmt
              obtain ⟨t, ht⟩ : ∃ t, t = cs[q] := ⟨_, rfl⟩
              rw [← ht] at hs hcell htk hlen hin hno
              have f0 : wo.cell? ⟨g, off + q * 2, none⟩ = some (.int .i64 t.lvl) := (hbw.cell (p := ⟨g, off + q * 2, none⟩) hg).trans (hcell 0 _ rfl)
              have f2 : wo.cell? ⟨g, off + q * 2 + 1, none⟩ = some s := (hbw.cell (p := ⟨g, off + q * 2 + 1, none⟩) hg).trans (hcell 1 _ rfl)
              obtain ⟨as1, cs', rfl, hsc⟩ := hs
              obtain ⟨Wt, hWt⟩ : ∃ W, W = wo.alloc (.cells #[.int .i64 t.lvl, .slice as1 t.ts.length cs'] 57) := ⟨_, rfl⟩
              have hn := alloc_new wo (.cells #[.int .i64 t.lvl, .slice as1 t.ts.length cs'] 57)
              have hbt : Below wo.heap.size wo Wt := by rw [hWt]; exact (Below.refl _ _).alloc (Nat.le_refl _) _
              have hNl : wo.heap.size < Wt.heap.size := by rw [hWt, World.size_alloc]; exact Nat.lt_succ_self _
              rw [← hWt] at hn
              have HWT := Lib.hid hWt
              have HN := Lib.hid hn
              have HNL := Lib.hid hNl
              have HTK := Lib.hid htk
              have HIN2 := Lib.hid hin
              have HNO := Lib.hid hno
              have HSC := Lib.hid hsc
              have HBT := Lib.hid (HB.out.trans (hbt.mono HB.out.size))
              have HBWT := Lib.hid (hbw.trans (hbt.mono hbw.size))
              obtain ⟨n0, n1⟩ := cells2 hn
              clear ht hcell hcc hWt hn hNl htk hin hno hsc hbw hbt hmt hB
              go_upto_region 12 with fail
              rw [← HWT.out]
              go_wp2_with fail
              go_loopw [47] (fun i wx => ∃ p : Nat, p ≤ t.ts.length ∧ i = .int .i64 p ∧ Below Wt.heap.size Wt wx ∧ ∀ i ∈ t.ts.take p, ∃ b, ts[i.toNat]? = some b ∧ b.lvl = t.lvl) (fun i _ => t.ts.length - (intOf i).toNat)
              case atStart => exact ⟨0, Nat.zero_le _, rfl, Below.refl _ _, by simp⟩
              case round =>
                clear n0 n1 f0 f2
                obtain ⟨wi, hwi⟩ : ∃ x, x = wr := ⟨_, rfl⟩
                subst hwi
                obtain ⟨p, hp, rfl, hB, hal2⟩ := hrel
                have HB3 := Lib.hid hB
                have HAL2 := Lib.hid hal2
                clear hal2
                by_cases hlp : p < t.ts.length
                · obtain ⟨gs, os, rfl, hgs, hcs⟩ := HSC.out (by omega)
                  have hbw : Below w.heap.size w wi := HBWT.out.trans (hB.mono HBWT.out.size)
                  have e1 := (hbw.cell (p := ⟨gs, os + p, none⟩) hgs).trans (hcs p hlp)
                  obtain ⟨i0', i1'⟩ := HIN2.out _ (List.getElem_mem hlp)
                  have hno := fun h => HNO.out h _ (List.getElem_mem hlp)
                  have htk2 : t.ts.take (p + 1) = t.ts.take p ++ [t.ts[p]] := List.take_succ_eq_append_getElem hlp
                  obtain ⟨x, hx⟩ : ∃ x, x = t.ts[p] := ⟨_, rfl⟩
                  rw [← hx] at e1 i0' i1' hno htk2
                  obtain ⟨j, rfl⟩ : ∃ j : Nat, x = (j : Int) := ⟨x.toNat, by omega⟩
                  have hj : j < ts.length := by omega
                  rw [Int.toNat_natCast, List.getElem?_eq_getElem hj] at hno
                  obtain ⟨gb, ob, rfl, hgb, hcb⟩ := HCB.out (by omega)
                  obtain ⟨sb, _, hcell⟩ := hcb j hj
                  have hbj : ts[j]? = some ts[j] := List.getElem?_eq_getElem hj
                  obtain ⟨b, hbe⟩ : ∃ b, b = ts[j] := ⟨_, rfl⟩
                  rw [← hbe] at hcell hno hbj
                  have b0 : wi.cell? ⟨gb, ob + j * 3, none⟩ = some (.int .i64 b.lvl) := (hbw.cell (p := ⟨gb, ob + j * 3, none⟩) hgb).trans (hcell 0 _ rfl)
                  obtain ⟨⟨u0, u1, u2, u3⟩, v0, v1, v2⟩ := HL.out wi (HBT.out.trans (hB.mono HBT.out.size))
                  obtain ⟨n0, n1⟩ := cells2 ((hB.block _ HNL.out).trans HN.out)
                  have HNO2 := Lib.hid hno
                  have HTK2 := Lib.hid htk2
                  have HBJ := Lib.hid hbj
                  clear hcell hcb hbe hno htk2 hbj hx hcs hbw hB i0' i1'
                  by_cases q1 : b.lvl = t.lvl
                  · have hbq : (b.lvl != t.lvl) = false := by simp [q1]
                    have Q := Lib.hid q1
                    clear q1
                    go_wp2_with fail
                    go_quiet (fail)
                    go_wp2_with fail
                    go_roundw
                    case rel =>
                      refine ⟨p + 1, by omega, by go_num, (by first | exact below_drewN HB3.out _ | exact HB3.out.drew), ?_⟩
                      rw [HTK2.out]
                      intro y hy
                      rcases List.mem_append.1 hy with hy | hy
                      · exact HAL2.out y hy
                      · rw [List.mem_singleton.1 hy, Int.toNat_natCast]
                        exact ⟨b, HBJ.out, Q.out⟩
                    case measure => simp [intOf]; omega
                  · have hbq : (b.lvl != t.lvl) = true := by simp [q1]
                    have hr : ¬ ConsOk ⟨kp, kg, kb, kt⟩ ⟨bs, ts, cs⟩ := fun h => by
                      obtain ⟨b', h1, h2⟩ := HNO2.out h
                      obtain rfl := Option.some.inj h1
                      exact q1 h2
                    have HRR := Lib.hid hr
                    clear hr q1
                    go_wp2_with fail
                    go_quiet (fail)
                    go_wp2_with fail
                    go_ret
                    exact ⟨_, rfl, by first | exact below_drewN (HBWT.out.trans (HB3.out.mono HBWT.out.size)) _ | exact (HBWT.out.trans (HB3.out.mono HBWT.out.size)).drew, IsB.no HRR.out⟩
                · obtain rfl : p = t.ts.length := by omega
                  rw [List.take_length] at HAL2
                  clear hB
                  go_wp2_with fail
                  go_roundw
                  case rel =>
                    refine ⟨q + 1, by omega, by go_num, HBT.out.trans (HB3.out.mono HBT.out.size), ?_⟩
                    rw [HTK.out]
                    intro y hy
                    rcases List.mem_append.1 hy with hy | hy
                    · exact HAL.out y hy
                    · rw [List.mem_singleton.1 hy]
                      exact HAL2.out
                  case measure => simp [intOf]; omega
            · obtain rfl : q = cs.length := by omega
              have hal := HAL.out
              rw [List.take_length] at hal
              have HRR := Lib.hid (HOK.out HON2.out hal)
              clear hal hB
              go_wp2_with fail
              go_ret
              exact ⟨_, rfl, HB2.out.trans (HB.out.mono HB2.out.size), IsB.yes HRR.out⟩
end Go.Proofs.YtojedplbhialpaaGreatDoor

/-! TK -/
namespace Go.Proofs.YtojedplbhialpaaGreatDoor
open Go.RowKit Go.Sort
set_option linter.unusedVariables false
set_option maxRecDepth 100000
set_option maxHeartbeats 32000000 in
theorem pack_ok {ls : List Lev} {m : Mai} (h : HasPlan ls m) (v vp vz : Value) (zs : List Int) (k : Pck) (w : World) (hr : RdLevs w v ls) (hrp : RdPces w vp m.ps) (hz : RdInts w vz zs) (hzl : zs.length = m.ps.length) (hn : numsB ls.length zs = true) (hA : allR ls m zs k = 0)
    (hk : pckB k = true) (hkg : ∀ p ∈ m.ps, p.grams ≤ k.grams) :
    Calls Tryz.prog 18 #[v, maiV m vp, vz, pckV k] w fun e w' => ∃ vb vt vc, e = .returned (.tuple #[lodV vb vt vc, .int .i64 0]) ∧ Below w.heap.size w w' ∧
      OwnsX 53 4 bunCell (fun b => b.ids) w' w.heap.size vb (pkTo k m.ps zs (gAll ls (codesM m.ps) ls.length) (gAll ls (codesM m.ps) ls.length).length).buns ∧
      OwnsX 55 3 traCell (fun t => t.bs) w' w.heap.size vt (pkTo k m.ps zs (gAll ls (codesM m.ps) ls.length) (gAll ls (codesM m.ps) ls.length).length).tras ∧
      OwnsX 57 2 conCell (fun c => c.ts) w' w.heap.size vc (pkTo k m.ps zs (gAll ls (codesM m.ps) ls.length) (gAll ls (codesM m.ps) ls.length).length).cons := by
  obtain ⟨j0, hj⟩ := info_parts Tryz.infoB4
  have HJB := Lib.hid hj
  obtain ⟨j1, hj1⟩ := info_parts Tryz.infoTr
  have HJT := Lib.hid hj1
  obtain ⟨j2, hj2⟩ := info_parts Tryz.infoCo
  have HJC := Lib.hid hj2
  have hpl := h.few
  have hll := right_len h.right
  have hgf := h.groups_few
  obtain ⟨hidg, hup⟩ := mail_ids h.mail
  have hcl : (codesM m.ps).length = m.ps.length := codesM_len _
  have hG : GrpsIn m.ps (gAll ls (codesM m.ps) ls.length) := gAll_in hcl
  have hO : OwnIn m.ps zs (gAll ls (codesM m.ps) ls.length) := gAll_own hcl hzl hn
  have hkk : (1 ≤ k.pieces ∧ k.pieces ≤ 2000 ∧ 1 ≤ k.grams ∧ k.grams ≤ 1000000) ∧ (1 ≤ k.bundles ∧ k.bundles ≤ 200 ∧ 1 ≤ k.trays ∧ k.trays ≤ 200) := by
    unfold pckB at hk
    rw [Bool.and_eq_true, decide_eq_true_eq, decide_eq_true_eq] at hk
    exact hk
  have HAL := Lib.hid (fun W (hW : Below w.heap.size w W) => allowed_any ls v vp vz m zs k W (hr.below hW) (right_fits h.right) (by omega) (hrp.below hW) h.rng h.org (by omega) (fun p hp => by have := codeB_size ((mail_parts h.mail).2 p hp); unfold maxLen; omega) (hz.below hW) (by omega))
  rw [hA] at HAL
  have HGO := Lib.hid (fun W (hW : Below w.heap.size w W) => groupsOf_ok h (hr.below hW) (hrp.below hW))
  have hitl : ∀ x ∈ gAll ls (codesM m.ps) ls.length, x.items.length ≤ 2000 := fun x hx => by
    obtain ⟨mm, n, _, _, rfl⟩ := mem_gAll.1 hx
    have := itm_len ls (codesM m.ps) mm n
    show (itm ls (codesM m.ps) mm n).length ≤ 2000
    omega
  obtain ⟨Gs, hGs⟩ : ∃ Gs, Gs = gAll ls (codesM m.ps) ls.length := ⟨_, rfl⟩
  rw [← hGs] at hgf hG hO HGO hitl ⊢
  have HBO := Lib.hid (fun (x : Grp) (hx : x ∈ Gs) sv W (hW : Below w.heap.size w W) (hs : RdInts W sv x.items) => bundlesOf_any x sv vp vz m zs k W hs (hrp.below hW) (hz.below hW) hzl hpl (hitl x hx) (fun i hi => (hG.items x hx).2 i hi) ⟨hkk.1.1, hkk.1.2.1, by omega, hkk.1.2.2.2⟩ (fun p hp => ⟨by have := hidg p hp; omega, by have := hidg p hp; omega, hkg p hp⟩))
  have HSM := Lib.hid (fun n hn => pk_small (k := k) (ps := m.ps) (zs := zs) (Gs := Gs) hkk.1.1 (by omega) hkk.2.1 hkk.2.2.2.1 hkg hup hG hO n hn)
  have HRP := Lib.hid hrp
  have HKG := Lib.hid hkg
  have HYES := Lib.hid (fun j hj he st hst bs hbs ts hts => pkTo_yes (k := k) (ps := m.ps) (zs := zs) (Gs := Gs) (j := j) hj he (st := st) hst (bs := bs) hbs (ts := ts) hts)
  have HNOT := Lib.hid (fun j hj he st hst bs hbs ts hts => pkTo_not (k := k) (ps := m.ps) (zs := zs) (Gs := Gs) (j := j) hj he (st := st) hst (bs := bs) hbs (ts := ts) hts)
  obtain ⟨av, cv, rfl, hpc⟩ := hrp
  have HPC := Lib.hid hpc
  clear hj hj1 hj2 hidg hup hcl hG hO hk hitl hGs hr hz hn hA h hpc hkg
  obtain ⟨pkS, hpk⟩ : ∃ f : Nat → PkS, f = pkTo k m.ps zs Gs := ⟨_, rfl⟩
  have HP0 : Hid (pkS 0 = ⟨[], [], [], 0⟩) := by rw [hpk]; unfold pkTo; rfl
  rw [← hpk] at HSM HYES HNOT ⊢
  have HBN : Hid (∀ x, bunsOf k m.ps zs x = bunsOf k m.ps zs x) := fun _ => rfl
  obtain ⟨bOf, hbOf⟩ : ∃ f : Grp → List Bun, f = bunsOf k m.ps zs := ⟨_, rfl⟩
  rw [← hbOf] at HYES HNOT HBO
  unfold maiV pckV lodV at *
  obtain ⟨kp, kg, kb, kt⟩ := k
  obtain ⟨cls, ctr, org, ps⟩ := m
  dsimp only at *
  obtain ⟨hk1, hk2⟩ := hkk
  obtain ⟨kb, rfl⟩ : ∃ n : Nat, kb = (n : Int) := ⟨kb.toNat, by omega⟩
  obtain ⟨kt, rfl⟩ : ∃ n : Nat, kt = (n : Int) := ⟨kt.toNat, by omega⟩
  rw [Int.toNat_natCast, Int.toNat_natCast] at HYES
  rw [Int.toNat_natCast] at HNOT
  clear hpk hbOf HBN
  obtain ⟨w3, hw3⟩ : ∃ w3, w3 = ((w.alloc (.cells #[.int .u8 cls, .int .u8 ctr, .string org, .slice av ps.length cv] 29)).alloc (.cells #[.int .i64 kp, .int .i64 kg, .int .i64 kb, .int .i64 kt] 32)).alloc (.cells #[.slice none 0 0, .slice none 0 0, .slice none 0 0] 39) := ⟨_, rfl⟩
  obtain ⟨g1, g2, g3⟩ := boxes3 hw3
  have hz3 : w3.heap.size = w.heap.size + 1 + 1 + 1 := by rw [hw3, World.size_alloc, World.size_alloc, World.size_alloc]
  have hb3 : Below w.heap.size w w3 := by
    rw [hw3]
    exact (((Below.refl _ w).alloc (Nat.le_refl _) _).alloc (by simp) _).alloc (by simp; omega) _
  have HBX := Lib.hid (fun (W : World) (hB : Below w3.heap.size w3 W) => And.intro (cells4 ((hB.block _ (by omega)).trans g1)) (cells4 ((hB.block _ (by omega)).trans g2)))
  have HL8 := Lib.hid (fun (W : World) (hB : Below w3.heap.size w3 W) => (hB.block _ (by omega)).trans g3)
  have HFR := Lib.hid (fun (W : World) (hB : Below w3.heap.size w3 W) => (fun j => row_free (i := j) ((hB.block _ (by omega)).trans g3) : ∀ j, W.frozen? ⟨w.heap.size + 1 + 1, j, none⟩ = false))
  have HW3 := Lib.hid hw3
  have HB3 := Lib.hid hb3
  have HZ3 := Lib.hid hz3
  clear hw3 hb3 hz3 g1 g2 g3
  obtain ⟨⟨x0, x1, x2, x3⟩, y0, y1, y2, y3⟩ := HBX.out w3 (Below.refl _ _)
  go_enter Tryz.func18, Tryz.ntmps18
  go_upto_region 1 with fail
  rw [← HW3.out]
  go_wp2_with (go_at_call 45; refine (HAL.out _ HB3.out).mono ?_; rintro e w4 ⟨rfl, hb4⟩; obtain ⟨⟨f0, f1, f2, f3⟩, e0, e1, e2, e3⟩ := HBX.out w4 hb4)
  go_loopw [37] (fun i wx => ∃ j : Nat, j ≤ ps.length ∧ i = .int .i64 j ∧ Below w3.heap.size w3 wx) (fun i _ => ps.length - (intOf i).toNat)
  case atStart => exact ⟨0, Nat.zero_le _, rfl, hb4⟩
  case round =>
    clear f0 f1 f2 f3 e0 e1 e2 e3 hb4 x0 x1 x2 x3 y0 y1 y2 y3
    obtain ⟨j, hj, rfl, hB⟩ := hrel
    have HBB := Lib.hid hB
    by_cases hlt : j < ps.length
    · obtain ⟨g, off, rfl, hg, hat⟩ := HPC.out (by omega)
      have hp := ((hat j hlt).below HB3.out hg).below hB (Nat.lt_of_lt_of_le hg HB3.out.size)
      have hgt := HKG.out _ (List.getElem_mem hlt)
      obtain ⟨p, hpe⟩ : ∃ p, p = ps[j] := ⟨_, rfl⟩
      rw [← hpe] at hp hgt
      obtain ⟨id, pt, cd, gr, br⟩ := p
      obtain ⟨p0, p1, p2, p3, p4⟩ := hp
      dsimp only at p0 p1 p2 p3 p4 hgt
      obtain ⟨⟨f0, f1, f2, f3⟩, e0, e1, e2, e3⟩ := HBX.out (wr.alloc (.cells #[.int .i64 id, .int .i64 pt, .string cd, .int .i64 gr, .bool br] 90)) (hB.alloc hB.size _)
      have hle : ¬ gr > kg := by omega
      clear hpe hat hB hgt
      go_wp2_with fail
      go_roundw
      case rel => exact ⟨j + 1, by omega, by go_num, HBB.out.alloc HBB.out.size _⟩
      case measure => simp [intOf]; omega
    · obtain ⟨⟨f0, f1, f2, f3⟩, e0, e1, e2, e3⟩ := HBX.out wr hB
      have hbw : Below w.heap.size w wr := HB3.out.trans (hB.mono HB3.out.size)
      have HBW := Lib.hid hbw
      clear hB hbw
      go_wp2_with (go_at_call 46; refine (HGO.out _ HBW.out).mono ?_; rintro e wg ⟨ag, cg, rfl, hbg, hrg⟩; have HBG3 := Lib.hid (HBB.out.trans (hbg.mono HBB.out.size)); have HBGW := Lib.hid (HBW.out.trans (hbg.mono HBW.out.size)); have HRG := Lib.hid hrg; clear hbg hrg)
      have hj' : j = ps.length := by omega
      clear hlt hj' hj e0 e1 e2 e3 f0 f1 f2 f3
      have HT0 : Hid (LodW (wg.alloc (.cells #[.slice none 0 0, .slice none 0 0, .slice none 0 0] 39)) wg.heap.size wg.heap.size [] [] [] (.slice none 0 0) (.slice none 0 0) (.slice none 0 0)) := ⟨alloc_new wg _, OwnsX.nil _ _, OwnsX.nil _ _, OwnsX.nil _ _⟩
      go_loopw [16, 60] (fun bg i wx => ∃ (j : Nat) (vb vt vc : Value), j ≤ Gs.length ∧ i = .int .i64 j ∧ bg = .int .i64 ((pkS j).beg : Nat) ∧ Below wg.heap.size wg wx ∧ LodW wx wg.heap.size wg.heap.size (pkS j).buns (pkS j).tras (pkS j).cons vb vt vc) (fun _ i _ => Gs.length - (intOf i).toNat)
      case atStart => exact ⟨0, _, _, _, Nat.zero_le _, rfl, by rw [HP0.out]; rfl, (Below.refl _ _).alloc (Nat.le_refl _) _, by rw [HP0.out]; exact HT0.out⟩
      case round =>
        clear HT0
        obtain ⟨wo, hwo⟩ : ∃ x, x = wr := ⟨_, rfl⟩
        subst hwo
        obtain ⟨j, vb, vt, vc, hj, rfl, rfl, hB, hL⟩ := hrel
        have HB := Lib.hid hB
        by_cases hlt : j < Gs.length
        · have hsm := HSM.out j (by omega)
          have hsm1 := HSM.out (j + 1) hlt
          have hyes := HYES.out j hlt
          have hnot := HNOT.out j hlt
          have hbo := HBO.out Gs[j] (List.getElem_mem hlt)
          have hends := ends_iff (Gs := Gs) (j := j)
          obtain ⟨gg, og, rfl, hgg, hcg⟩ := RdGrps.lies HRG.out (by omega)
          obtain ⟨sv, hsv, hgat⟩ := hcg j hlt
          obtain ⟨x, hx⟩ : ∃ x, x = Gs[j] := ⟨_, rfl⟩
          rw [← hx] at hyes hnot hbo hsv hgat
          obtain ⟨asx, csx, hsf, _⟩ := id hsv
          subst hsf
          obtain ⟨st, hst⟩ : ∃ st, st = pkS j := ⟨_, rfl⟩
          have hyes := fun he bs hbs ts hts => hyes he st hst bs hbs ts hts
          have hnot := fun he bs hbs ts hts => hnot he st hst bs hbs ts hts
          rw [← hst] at hsm hL ⊢
          obtain ⟨bs, hbs⟩ : ∃ bs, bs = st.buns ++ bOf x := ⟨_, rfl⟩
          have hyes := fun he ts hts => hyes he bs hbs ts hts
          have hnot := fun he ts hts => hnot he bs hbs ts hts
          obtain ⟨ts, hts⟩ : ∃ ts, ts = st.tras ++ (shareR st.buns.length bs.length kb).map (traOf x) := ⟨_, rfl⟩
          have hyes := fun he => hyes he ts hts
          have hnot := fun he => hnot he ts hts
          have hsz : bs.length ≤ ps.length ∧ ts.length ≤ ps.length := by
            by_cases he : endsL Gs j
            · rw [hyes he] at hsm1; exact ⟨hsm1.1, hsm1.2.1⟩
            · rw [hnot he] at hsm1; exact ⟨hsm1.1, hsm1.2.1⟩
          have HSM1 := Lib.hid hsm1
          have HY := Lib.hid hyes
          have HN := Lib.hid hnot
          have HE := Lib.hid hends
          have HX := Lib.hid hx
          have HST := Lib.hid hst
          have HBS := Lib.hid hbs
          have HTS := Lib.hid hts
          have hbWw : Below w.heap.size w wo := HBGW.out.trans (hB.mono HBGW.out.size)
          obtain ⟨Wq, N, hWq, hN, b1, b2, hgat', c0, c1, c2, c3⟩ := box_facts wo wg w x (.slice asx x.items.length csx) (.slice asx x.items.length csx) gg (og + j * 4) hbWw hB hgg hgat 114
          have hbq : Below wo.heap.size wo Wq := by rw [← hWq]; exact (Below.refl _ _).alloc (Nat.le_refl _) _
          have hb3 : Below w3.heap.size w3 Wq := HBG3.out.trans (b2.mono HBG3.out.size)
          obtain ⟨g0, g1, g2, g3⟩ := hgat.below hB hgg
          have hNlt : N < Wq.heap.size := by rw [← hWq, ← hN, World.size_alloc]; omega
          have HWQ := Lib.hid hWq
          have HNN := Lib.hid hN
          have hLq := hL.below hbq
          have hNh : Wq.heap[N]? = some (.cells #[.int .i64 x.lvl, .string x.name, .int .i64 x.up, .slice asx x.items.length csx] 114 (0, 0)) := by rw [← hWq, ← hN]; exact alloc_new wo _
          have hPQ : PkW wg Wq N x (.slice asx x.items.length csx) st.buns st.tras st.cons vb vt vc := ⟨b2, hLq, hNh⟩
          have HPQ := Lib.hid hPQ
          have HBQ := Lib.hid hbq
          have HB2 := Lib.hid b2
          have HBO2 := Lib.hid (hbo _ Wq b1 (hsv.below b2))
          have HB1 := Lib.hid b1
          have HB3Q := Lib.hid hb3
          have HSV := Lib.hid hsv
          have HTL : Hid (wg.heap.size < Wq.heap.size) := hLq.lt
          obtain ⟨⟨f0, f1, f2, f3⟩, e0, e1, e2, e3⟩ := HBX.out Wq hb3
          clear hsm1 hyes hnot hends hst hbs hts hbWw hWq hN hb3 hgat' hgat hcg hL hLq hbq hbo hsv b1 b2 hx hNh hPQ
          go_upto_region 18 with fail
          rw [HWQ.out, HNN.out]
          obtain ⟨ab, cb, hvb⟩ := HPQ.out.l.b.form
          subst hvb
          obtain ⟨z0, z1, z2⟩ := cells3 HPQ.out.l.cell
          go_wp2_with (first
            | (go_at_call 47; refine HBO2.out.mono ?_; rintro e w7 ⟨v7, rfl, hb7, ho7⟩; obtain ⟨L7, hL7, hLr7, hLo7⟩ := ho7; have HP7 := Lib.hid (HPQ.out.below hb7); obtain ⟨z0, z1, z2⟩ := cells3 HP7.out.l.cell; obtain ⟨L, hL, hLr, hLo⟩ := HP7.out.l.b; obtain ⟨hlb, hl7⟩ := app_lens hL hL7 HBS.out)
            | (at_builtin; refine wpList_append_both _ rfl _ _ 35 rfl wg.heap.size 53 j0 (.agg #[.int .i64 0, .string ⟨#[]⟩, .slice none 0 0, .int .i64 0]) 4 56 Tryz.underlying35 HJB.out.1 HJB.out.2.1 HJB.out.2.2.1 HJB.out.2.2.2 rfl (by decide) _ L.length _ rfl hLo _ _ L7.length _ rfl hLo7 (bun_one hLr7) (by unfold maxLen; omega) (by omega) (Nat.le_of_lt HP7.out.l.lt) ?_; intro v8 w8 hown hgrow; have ho8 := OwnsX.app (ids := fun b : Bun => b.ids) (by decide) hLr (fun p hp => (hLr7 p hp).mono (Nat.le_of_lt HTL.out)) hLo hgrow hown; (rw [hL, hL7, ← HBS.out] at ho8); obtain ⟨a8, c8, hv8⟩ := ho8.form; subst hv8; obtain ⟨hp9, hfz8, hc8⟩ := HP7.out.addB hgrow ho8; have HP9 := Lib.hid hp9; obtain ⟨u0, u1, u2⟩ := cells3 hp9.l.cell; obtain ⟨_, t0, t1, t2, t3⟩ := HBX.out _ (HBG3.out.trans (hp9.b.mono HBG3.out.size)); clear z0 z1 z2 hLr hLr7 hLo7 hL hL7 hlb hl7 ho8 hp9 hown e0 e1 e2 e3)
            | (go_at_call 48; refine (shares_any st.buns.length bs.length kb _ (by omega) (by rw [HBS.out, List.length_append]; omega) (by omega) (by omega)).mono ?_; rintro e w10 ⟨v10, rfl, hb10, ho10⟩; obtain ⟨a10, c10, hv10, _⟩ := ho10.lies; subst hv10; have HP10 := Lib.hid (HP9.out.below hb10); have HL10 := Lib.hid (ho10.mono HP9.out.b.size); clear ho10 hb10))
          obtain ⟨R, hR⟩ : ∃ R, R = shareR st.buns.length bs.length kb := ⟨_, rfl⟩
          rw [← hR] at HTS HL10 ⊢
          have hts := HTS.out
          have htl : st.tras.length + R.length = ts.length := by rw [hts, List.length_append, List.length_map]
          clear hR hts u0 u1 u2 t0 t1 t2 t3 hfz8 hc8 hgrow f0 f1 f2 f3 c0 c1 c2 c3
          go_loopw [86] (fun i wx => ∃ (q : Nat) (vt' : Value), q ≤ R.length ∧ i = .int .i64 q ∧ PkW wg wx N x (.slice asx x.items.length csx) bs (st.tras ++ (R.take q).map (traOf x)) st.cons (.slice a8 bs.length c8) vt' vc ∧ OwnsLL wx wg.heap.size (.slice a10 R.length c10) R) (fun i _ => R.length - (intOf i).toNat)
          case atStart => exact ⟨0, vt, Nat.zero_le _, rfl, by rw [List.take_zero, List.map_nil, List.append_nil]; exact HP10.out, HL10.out⟩
          case round =>
            obtain ⟨wi, hwi⟩ : ∃ x, x = wr := ⟨_, rfl⟩
            subst hwi
            obtain ⟨q, vt', hq, rfl, hP, hLL⟩ := hrel
            have HP := Lib.hid hP
            have HLL := Lib.hid hLL
            by_cases hqn : q < R.length
            · obtain ⟨g10, rfl, hg10, hat⟩ := hLL.at (by omega)
              obtain ⟨sl, hs, hrow⟩ := hat q hqn
              have htk : R.take (q + 1) = R.take q ++ [R[q]] := List.take_succ_eq_append_getElem hqn
              obtain ⟨l, hl⟩ : ∃ l, l = R[q] := ⟨_, rfl⟩
              rw [← hl] at hrow htk
              obtain ⟨al, cl, hsl, _⟩ := id hrow
              subst hsl
              have HTK := Lib.hid htk
              have HROW := Lib.hid hrow
              have htq : st.tras ++ (R.take (q + 1)).map (traOf x) = (st.tras ++ (R.take q).map (traOf x)) ++ [traOf x l] := by rw [htk, List.map_append, List.append_assoc]; rfl
              have hTql : (st.tras ++ (R.take q).map (traOf x)).length = st.tras.length + q := by rw [List.length_append, List.length_map, List.length_take]; omega
              obtain ⟨tq', htq'⟩ : ∃ l, l = st.tras ++ (R.take (q + 1)).map (traOf x) := ⟨_, rfl⟩
              obtain ⟨tq, htq0⟩ : ∃ l, l = st.tras ++ (R.take q).map (traOf x) := ⟨_, rfl⟩
              rw [← htq', ← htq0] at htq
              rw [← htq0] at hTql hP
              have HTQ := Lib.hid htq
              have HTQ' := Lib.hid htq'
              obtain ⟨at', ct', hvt⟩ := hP.l.t.form
              subst hvt
              obtain ⟨z0, z1, z2⟩ := cells3 hP.l.cell
              obtain ⟨c0, c1, c2, c3⟩ := cells4 hP.n
              have hPa := hP.below ((Below.refl wi.heap.size wi).alloc (Nat.le_refl _) (.cells #[.int .i64 x.lvl, .string x.name, .slice al l.length cl] 55))
              obtain ⟨L, hL, hLr, hLo⟩ := hPa.l.t
              have hLn : L.length = st.tras.length + q := by
                have := congrArg List.length hL
                rw [List.length_map] at this
                omega
              have hrow' := hrow.below ((Below.refl wi.heap.size wi).alloc (Nat.le_refl _) (.cells #[.int .i64 x.lvl, .string x.name, .slice al l.length cl] 55))
              have HROW' := Lib.hid hrow'
              have HPA := Lib.hid hPa
              have HLo := Lib.hid hLo
              have HLr := Lib.hid hLr
              have HL := Lib.hid hL
              have hzs := hPa.b.size
              have HZS := Lib.hid hzs
              have HLA : Hid (OwnsLL (wi.alloc (.cells #[.int .i64 x.lvl, .string x.name, .slice al l.length cl] 55)) wg.heap.size (.slice (some ⟨g10, 0, none⟩) R.length c10) R) := hLL.below ((Below.refl wi.heap.size wi).alloc (Nat.le_refl _) _)
              clear hl hat hP hLL hrow htk hPa hrow' hLo hLr hL hzs htq htq' htq0 hTql
              go_wp2_with (at_builtin; refine wpList_append_own _ rfl _ _ 36 rfl wg.heap.size 55 j1 (.agg #[.int .i64 0, .string ⟨#[]⟩, .slice none 0 0]) 3 48 Tryz.underlying36 HJT.out.1 HJT.out.2.1 HJT.out.2.2.1 HJT.out.2.2.2 rfl (by decide) _ L.length _ rfl HLo.out ⟨wi.heap.size, 0, none⟩ 1 1 [.int .i64 x.lvl, .string x.name, .slice al l.length cl] rfl rfl (cells_new _ _ _) (by simp [Value.oneCell']) (by unfold maxLen; omega) (by omega) HZS.out ?_; intro v8 w8 hown hgrow _; have ho8 := OwnsX.add (ids := fun t : Tra => t.bs) (x := traOf x l) HL.out (by decide) HLr.out HROW'.out HLo.out hgrow hown; (rw [← HTQ.out] at ho8); obtain ⟨a9, c9, hv8⟩ := ho8.form; subst hv8; obtain ⟨hp9, hfz8, hc8⟩ := HPA.out.addT hgrow ho8; have HP9 := Lib.hid hp9; have HL9 := Lib.hid (HPA.out.rowsT hgrow HLA.out (.slice a9 tq'.length c9)); clear ho8 hp9 hown)
              go_roundw
              case rel =>
                refine ⟨q + 1, .slice a9 tq'.length c9, by omega, by go_num, ?_, HL9.out⟩
                rw [← HTQ'.out]
                exact HP9.out
              case measure => simp [intOf]; omega
            · have hqe : q = R.length := by omega
              subst hqe
              rw [List.take_length, ← HTS.out] at hP HP
              obtain ⟨c0, c1, c2, c3⟩ := cells4 hP.n
              have hbg : Below wg.heap.size wg wi := hP.b
              clear hLL HLL hP hqn hq htl
              obtain ⟨av1, cv1, hvt⟩ := HP.out.l.t.form
              subst hvt
              go_upto_region 26 with fail
              go_cut [117] from 102 to 117 (fun b wx => ∃ c : Bool, b = .bool c ∧ (c = true ↔ ¬ endsL Gs j) ∧ Below wi.heap.size wi wx)
              case first =>
                by_cases h1 : j + 1 < Gs.length
                · obtain ⟨gg2, og2, hga, hgg2, hcg⟩ := RdGrps.lies HRG.out (by omega)
                  injection hga with hga
                  injection hga with hga1 hga2 _
                  subst hga1 hga2
                  obtain ⟨sv2, _, i0, _, _, _⟩ := hcg (j + 1) h1
                  replace i0 := (hbg.cell (p := ⟨gg, og + (j + 1) * 4, none⟩) hgg2).trans i0
                  have hend : endsL Gs j ↔ ¬ (Gs[j + 1].lvl = x.lvl) := by
                    rw [HE.out]
                    constructor
                    · intro h e; exact h ⟨h1, by rw [e, HX.out]⟩
                    · rintro h ⟨h2, h3⟩; exact h (by rw [h3, HX.out])
                  obtain ⟨lv2, hlv2⟩ : ∃ z, z = Gs[j + 1].lvl := ⟨_, rfl⟩
                  rw [← hlv2] at i0 hend
                  have HEND := Lib.hid hend
                  have hd1 : decide ((j : Int) + 1 < (Gs.length : Int)) = true := decide_eq_true (by omega)
                  have hd2 : decide (j + 1 < Gs.length) = true := decide_eq_true h1
                  clear hcg hlv2 hend
                  by_cases h2 : lv2 = x.lvl
                  · have hbq : (lv2 == x.lvl) = true := by simp [h2]
                    have h3 : ¬ endsL Gs j := fun h => HEND.out.1 h h2
                    have H3 := Lib.hid h3
                    clear h2 h3
                    go_wp2_with fail
                    go_quiet (fail)
                    go_wp2_with fail
                    go_meet
                    exact ⟨true, rfl, by simp [H3.out], (by first | exact below_drewN (Below.refl _ _) _ | exact (Below.refl _ _).drew)⟩
                  · have hbq : (lv2 == x.lvl) = false := by simp [h2]
                    have h3 : endsL Gs j := HEND.out.2 h2
                    have H3 := Lib.hid h3
                    clear h2 h3
                    go_wp2_with fail
                    go_quiet (fail)
                    go_wp2_with fail
                    go_meet
                    exact ⟨false, rfl, by simp [H3.out], (by first | exact below_drewN (Below.refl _ _) _ | exact (Below.refl _ _).drew)⟩
                · have h3 : endsL Gs j := HE.out.2 (fun ⟨h2, _⟩ => h1 h2)
                  have H3 := Lib.hid h3
                  have hd1 : decide ((j : Int) + 1 < (Gs.length : Int)) = false := decide_eq_false (by omega)
                  have hd2 : decide (j + 1 < Gs.length) = false := decide_eq_false h1
                  clear h3 h1
                  go_wp2_with fail
                  go_quiet (fail)
                  go_wp2_with fail
                  go_meet
                  exact ⟨false, rfl, by simp [H3.out], (by first | exact below_drewN (Below.refl _ _) _ | exact (Below.refl _ _).drew)⟩
              case rest =>
                obtain ⟨wk, hwk⟩ : ∃ x, x = wc := ⟨_, rfl⟩
                subst hwk
                obtain ⟨c, rfl, hc, hb⟩ := hcut
                have HPK := Lib.hid (HP.out.below hb)
                clear c0 c1 c2 c3 hbg hb
                cases c
                · have he : endsL Gs j := Classical.byContradiction (fun h => Bool.noConfusion (hc.2 h))
                  have hy := HY.out he
                  have hbl : st.beg ≤ ts.length := by
                    have h1 := HTS.out
                    have h2 := congrArg List.length h1
                    rw [List.length_append] at h2
                    omega
                  have hcl : (st.cons ++ (shareR st.beg ts.length kt).map (conOf x)).length ≤ ps.length := by
                    have h1 := HSM1.out.2.2.1
                    rw [hy] at h1
                    exact h1
                  have HYY := Lib.hid hy
                  have hsz2 := hsz.2
                  obtain ⟨z0, z1, z2⟩ := cells3 HPK.out.l.cell
                  obtain ⟨_, t0, t1, t2, t3⟩ := HBX.out wk (HBG3.out.trans (HPK.out.b.mono HBG3.out.size))
                  clear hy hc he
                  go_wp2_with (go_at_call 48; refine (shares_any st.beg ts.length kt _ (by omega) hbl (by omega) (by omega)).mono ?_; rintro e w11 ⟨v11, rfl, hb11, ho11⟩; obtain ⟨a11, c11, hv11, _⟩ := ho11.lies; subst hv11; have HP11 := Lib.hid (HPK.out.below hb11); have HL11 := Lib.hid (ho11.mono HPK.out.b.size); clear ho11 hb11)
                  obtain ⟨R2, hR2⟩ : ∃ R, R = shareR st.beg ts.length kt := ⟨_, rfl⟩
                  rw [← hR2] at HYY HL11 hcl ⊢
                  rw [List.length_append, List.length_map] at hcl
                  clear hR2 z0 z1 z2 t0 t1 t2 t3
                  go_loopw [126] (fun i wx => ∃ (q : Nat) (vc' : Value), q ≤ R2.length ∧ i = .int .i64 q ∧ PkW wg wx N x (.slice asx x.items.length csx) bs ts (st.cons ++ (R2.take q).map (conOf x)) (.slice a8 bs.length c8) (.slice av1 ts.length cv1) vc' ∧ OwnsLL wx wg.heap.size (.slice a11 R2.length c11) R2) (fun i _ => R2.length - (intOf i).toNat)
                  case atStart => exact ⟨0, vc, Nat.zero_le _, rfl, by rw [List.take_zero, List.map_nil, List.append_nil]; exact HP11.out, HL11.out⟩
                  case round =>
                    obtain ⟨wi2, hwi2⟩ : ∃ x, x = wr := ⟨_, rfl⟩
                    subst hwi2
                    obtain ⟨q, vc', hq, rfl, hP, hLL⟩ := hrel
                    have HP2 := Lib.hid hP
                    have HLL := Lib.hid hLL
                    by_cases hqn : q < R2.length
                    · obtain ⟨g11, rfl, hg11, hat⟩ := hLL.at (by omega)
                      obtain ⟨sl, hs, hrow⟩ := hat q hqn
                      have htk : R2.take (q + 1) = R2.take q ++ [R2[q]] := List.take_succ_eq_append_getElem hqn
                      obtain ⟨l, hl⟩ : ∃ l, l = R2[q] := ⟨_, rfl⟩
                      rw [← hl] at hrow htk
                      obtain ⟨al, cl, hsl, _⟩ := id hrow
                      subst hsl
                      have htq : st.cons ++ (R2.take (q + 1)).map (conOf x) = (st.cons ++ (R2.take q).map (conOf x)) ++ [conOf x l] := by rw [htk, List.map_append, List.append_assoc]; rfl
                      have hTql : (st.cons ++ (R2.take q).map (conOf x)).length = st.cons.length + q := by rw [List.length_append, List.length_map, List.length_take]; omega
                      obtain ⟨tq', htq'⟩ : ∃ l, l = st.cons ++ (R2.take (q + 1)).map (conOf x) := ⟨_, rfl⟩
                      obtain ⟨tq, htq0⟩ : ∃ l, l = st.cons ++ (R2.take q).map (conOf x) := ⟨_, rfl⟩
                      rw [← htq', ← htq0] at htq
                      rw [← htq0] at hTql hP
                      have HTQ := Lib.hid htq
                      have HTQ' := Lib.hid htq'
                      obtain ⟨at', ct', hvt⟩ := hP.l.c.form
                      subst hvt
                      obtain ⟨z0, z1, z2⟩ := cells3 hP.l.cell
                      obtain ⟨c0, c1, c2, c3⟩ := cells4 hP.n
                      have hPa := hP.below ((Below.refl wi2.heap.size wi2).alloc (Nat.le_refl _) (.cells #[.int .i64 x.lvl, .slice al l.length cl] 57))
                      obtain ⟨L, hL, hLr, hLo⟩ := hPa.l.c
                      have hLn : L.length = st.cons.length + q := by
                        have := congrArg List.length hL
                        rw [List.length_map] at this
                        omega
                      have hrow' := hrow.below ((Below.refl wi2.heap.size wi2).alloc (Nat.le_refl _) (.cells #[.int .i64 x.lvl, .slice al l.length cl] 57))
                      have HROW' := Lib.hid hrow'
                      have HPA := Lib.hid hPa
                      have HLo := Lib.hid hLo
                      have HLr := Lib.hid hLr
                      have HL := Lib.hid hL
                      have hzs := hPa.b.size
                      have HZS := Lib.hid hzs
                      have HLA : Hid (OwnsLL (wi2.alloc (.cells #[.int .i64 x.lvl, .slice al l.length cl] 57)) wg.heap.size (.slice (some ⟨g11, 0, none⟩) R2.length c11) R2) := hLL.below ((Below.refl wi2.heap.size wi2).alloc (Nat.le_refl _) _)
                      clear hl hat hP hLL hrow htk hPa hrow' hLo hLr hL hzs htq htq' htq0 hTql
                      go_wp2_with (at_builtin; refine wpList_append_own _ rfl _ _ 37 rfl wg.heap.size 57 j2 (.agg #[.int .i64 0, .slice none 0 0]) 2 32 Tryz.underlying37 HJC.out.1 HJC.out.2.1 HJC.out.2.2.1 HJC.out.2.2.2 rfl (by decide) _ L.length _ rfl HLo.out ⟨wi2.heap.size, 0, none⟩ 1 1 [.int .i64 x.lvl, .slice al l.length cl] rfl rfl (cells_new _ _ _) (by simp [Value.oneCell']) (by unfold maxLen; omega) (by omega) HZS.out ?_; intro v8 w8 hown hgrow _; have ho8 := OwnsX.add (ids := fun t : Con => t.ts) (x := conOf x l) HL.out (by decide) HLr.out HROW'.out HLo.out hgrow hown; (rw [← HTQ.out] at ho8); obtain ⟨a9, c9, hv8⟩ := ho8.form; subst hv8; obtain ⟨hp9, hfz8, hc8⟩ := HPA.out.addC hgrow ho8; have HP9 := Lib.hid hp9; have HL9 := Lib.hid (HPA.out.rowsC hgrow HLA.out (.slice a9 tq'.length c9)); clear ho8 hp9 hown)
                      go_roundw
                      case rel =>
                        refine ⟨q + 1, .slice a9 tq'.length c9, by omega, by go_num, ?_, HL9.out⟩
                        rw [← HTQ'.out]
                        exact HP9.out
                      case measure => simp [intOf]; omega
                    · have hqe : q = R2.length := by omega
                      subst hqe
                      rw [List.take_length] at HP2
                      obtain ⟨z0, z1, z2⟩ := cells3 HP2.out.l.cell
                      clear hLL HLL hP hqn hq
                      go_wp2_with fail
                      go_roundw
                      case rel =>
                        refine ⟨j + 1, .slice a8 bs.length c8, .slice av1 ts.length cv1, vc', by omega, by go_num, by rw [HYY.out], HP2.out.b, ?_⟩
                        rw [HYY.out]
                        exact HP2.out.l
                      case measure => simp [intOf]; omega
                · have hn := HN.out (hc.1 rfl)
                  have HNO := Lib.hid hn
                  clear hc hn
                  go_wp2_with fail
                  go_roundw
                  case rel =>
                    refine ⟨j + 1, .slice a8 bs.length c8, .slice av1 ts.length cv1, vc, by omega, by go_num, by rw [HNO.out], HPK.out.b, ?_⟩
                    rw [HNO.out]
                    exact HPK.out.l
                  case measure => simp [intOf]; omega
        · obtain rfl : j = Gs.length := by omega
          obtain ⟨ab, cb, hvb⟩ := hL.b.form
          obtain ⟨at', ct, hvt⟩ := hL.t.form
          obtain ⟨ac, cc, hvc⟩ := hL.c.form
          have HL := Lib.hid hL
          have h3o : Below w3.heap.size w3 wo := HBG3.out.trans (hB.mono HBG3.out.size)
          have hwo : Below w.heap.size w wo := HB3.out.trans (h3o.mono HB3.out.size)
          subst hvb hvt hvc
          obtain ⟨z0, z1, z2⟩ := cells3 hL.cell
          have hres := HL8.out wo h3o
          obtain ⟨c0, c1, c2⟩ := cells3 hres
          have f0 := HFR.out wo h3o 0
          have f1 := HFR.out wo h3o 1
          have f2 := HFR.out wo h3o 2
          have HRES := Lib.hid hres
          have HWO := Lib.hid hwo
          have HWG := HBGW.out.size
          clear hL hres h3o hwo
          go_wp2_with fail
          refine bodyPost_ret (results_cell_two rfl _ _ (w.heap.size + 1 + 1) 39 _ (0, 0) _ (.int .i64 0) rfl rfl (set3all HRES.out) Tryz.underlying39 rfl (by kernel_rfl)) rfl ?_
          exact ⟨_, _, _, rfl, ((HWO.out.setCell (p := ⟨w.heap.size + 1 + 1, 0, none⟩) (Nat.le_add_right _ 2) _).setCell (p := ⟨w.heap.size + 1 + 1, 1, none⟩) (Nat.le_add_right _ 2) _).setCell (p := ⟨w.heap.size + 1 + 1, 2, none⟩) (Nat.le_add_right _ 2) _,
            (own_lod3 HL.out.b (by decide) HRES.out).mono HWG, (own_lod3 HL.out.t (by decide) HRES.out).mono HWG, (own_lod3 HL.out.c (by decide) HRES.out).mono HWG⟩
end Go.Proofs.YtojedplbhialpaaGreatDoor

/-! TS -/
namespace Go.Proofs.YtojedplbhialpaaGreatDoor
open Go.RowKit Go.Sort
set_option linter.unusedVariables false
set_option maxRecDepth 100000
theorem IsB.true {v : Value} {P : Prop} (h : IsB v P) (hp : P) : v = .bool .true := by
  obtain ⟨r, rfl, hr⟩ := h
  rw [hr.2 hp]
theorem IsB.false {v : Value} {P : Prop} (h : IsB v P) (hp : ¬ P) : v = .bool .false := by
  obtain ⟨r, rfl, hr⟩ := h
  cases r
  · rfl
  · exact absurd (hr.1 rfl) hp
theorem Tryz.infoSt : (Tryz.prog.info? 9).map (fun i => (i.zero, i.size, i.bytes)) = some (some (.string ⟨#[]⟩), 1, 16) := by kernel_rfl
def StrsAt (w : World) (g : Nat) (xs : List ByteArray) : Prop := w.heap[g]? = some (.cells (xs.map Value.string).toArray 9 (0, 0))
theorem StrsAt.lt {w : World} {g : Nat} {xs : List ByteArray} (h : StrsAt w g xs) : g < w.heap.size := (Array.getElem?_eq_some_iff.1 h).1
theorem StrsAt.below {w w' : World} {g B : Nat} {xs : List ByteArray} (h : StrsAt w g xs) (hb : Below B w w') (hg : g < B) : StrsAt w' g xs := (hb.block g hg).trans h
theorem StrsAt.free {w : World} {g : Nat} {xs : List ByteArray} (h : StrsAt w g xs) (i : Nat) : w.frozen? ⟨g, i, none⟩ = .false := by
  unfold StrsAt at h
  simp [World.frozen?, h]
theorem StrsAt.cell {w : World} {g : Nat} {xs : List ByteArray} (h : StrsAt w g xs) {i : Nat} (hi : i < xs.length) : w.cell? ⟨g, i, none⟩ = some (.string xs[i]) := by
  unfold StrsAt at h
  simp [World.cell?, h, hi]
theorem StrsAt.set {w : World} {g : Nat} {xs : List ByteArray} (h : StrsAt w g xs) (i : Nat) (x : ByteArray) : StrsAt (w.setCell ⟨g, i, none⟩ (.string x)) g (xs.set i x) := by
  have hl := h.lt
  unfold StrsAt at *
  simp only [World.setCell, Array.getElem?_modify, if_pos, h, Option.map_some, List.map_set]
  simp
theorem StrsAt.rd {w : World} {g : Nat} {xs : List ByteArray} (h : StrsAt w g xs) (cap : Nat) : ReadsT w (.slice (some ⟨g, 0, none⟩) xs.length cap) xs :=
  ⟨_, cap, rfl, fun _ => ⟨g, 0, rfl, h.lt, fun i hi => by rw [Nat.zero_add]; exact h.cell hi⟩⟩
theorem made_strs (w : World) (n : Nat) : StrsAt (w.alloc (.cells (madeCells #[Value.string ⟨#[]⟩] n) 9)) w.heap.size (List.replicate n noB) := by
  have e : madeCells #[Value.string ⟨#[]⟩] n = ((List.replicate n noB).map Value.string).toArray := by
    apply Array.toList_inj.1
    rw [toList_madeCells_one]
    simp [noB]
  unfold StrsAt
  rw [e]
  exact alloc_new w _
set_option maxHeartbeats 32000000 in
theorem check_ok {ls : List Lev} {m : Mai} (h : HasPlan ls m) (v vp vz vb vt vc : Value) (zs : List Int) (k : Pck) (l : Lod) (w : World) (hr : RdLevs w v ls) (hrp : RdPces w vp m.ps) (hz : RdInts w vz zs) (hzl : zs.length = m.ps.length) (hn : numsB ls.length zs = true) (hA : allR ls m zs k = 0)
    (hrl : RdLod w vb vt vc l) (hs : SmallL l) (hid : ∀ b ∈ l.buns, ∀ i ∈ b.ids, 0 ≤ i ∧ i ≤ 999999) :
    Calls Tryz.prog 49 #[v, maiV m vp, vz, pckV k, lodV vb vt vc] w fun e w' => ∃ u, e = .returned (.tuple #[u, .int .i64 0]) ∧ Below w.heap.size w w' ∧
      IsB u (LodOk k m.ps zs (nmTo zs (gAll ls (codesM m.ps) ls.length) m.ps.length (gAll ls (codesM m.ps) ls.length).length) l) := by
  have hpl := h.few
  have hll := right_len h.right
  have hgf := h.groups_few
  obtain ⟨hidg, hup⟩ := mail_ids h.mail
  have hcl : (codesM m.ps).length = m.ps.length := codesM_len _
  have hG : GrpsIn m.ps (gAll ls (codesM m.ps) ls.length) := gAll_in hcl
  have HAL := Lib.hid (fun W (hW : Below w.heap.size w W) => allowed_any ls v vp vz m zs k W (hr.below hW) (right_fits h.right) (by omega) (hrp.below hW) h.rng h.org (by omega) (fun p hp => by have := codeB_size ((mail_parts h.mail).2 p hp); unfold maxLen; omega) (hz.below hW) (by omega))
  rw [hA] at HAL
  have HGO := Lib.hid (fun W (hW : Below w.heap.size w W) => groupsOf_ok h (hr.below hW) (hrp.below hW))
  have hitl : ∀ x ∈ gAll ls (codesM m.ps) ls.length, x.items.length ≤ 2000 ∧ ∀ i ∈ x.items, 0 ≤ i ∧ i.toNat < m.ps.length := fun x hx => by
    refine ⟨?_, (hG.items x hx).2⟩
    obtain ⟨mm, n, _, _, rfl⟩ := mem_gAll.1 hx
    have := itm_len ls (codesM m.ps) mm n
    show (itm ls (codesM m.ps) mm n).length ≤ 2000
    omega
  obtain ⟨Gs, hGs⟩ : ∃ Gs, Gs = gAll ls (codesM m.ps) ls.length := ⟨_, rfl⟩
  rw [← hGs] at hgf HGO hitl ⊢
  have hnl := nmTo_len zs Gs m.ps.length Gs.length (Nat.le_refl _)
  have HBR := Lib.hid (fun W vn (hW : Below w.heap.size w W) (hn : ReadsT W vn (nmTo zs Gs m.ps.length Gs.length)) => bundlesRight_any k l m zs (nmTo zs Gs m.ps.length Gs.length) vp vz vn vb vt vc W (hrp.below hW) (hz.below hW) hn (hrl.below hW) hs hup hpl hzl hnl (fun p hp => by have := hidg p hp; omega) hid)
  have HTR := Lib.hid (fun W (hW : Below w.heap.size w W) => traysRight_any k l vb vt vc W (hrl.below hW) hs)
  have HCR := Lib.hid (fun W (hW : Below w.heap.size w W) => containersRight_any k l vb vt vc W (hrl.below hW) hs)
  have HNS := Lib.hid (fun q (hq : q < Gs.length) => nmTo_succ zs Gs m.ps.length hq)
  have HNL := Lib.hid (fun q (hq : q ≤ Gs.length) => nmTo_len zs Gs m.ps.length q hq)
  have HN0 : Hid (nmTo zs Gs m.ps.length 0 = List.replicate m.ps.length noB) := Lib.hid rfl
  have hOK : BunsOk k m.ps zs (nmTo zs Gs m.ps.length Gs.length) l.buns → TrasOk k l → ConsOk k l → LodOk k m.ps zs (nmTo zs Gs m.ps.length Gs.length) l := fun a b c => ⟨a, b, c⟩
  have hB1 : LodOk k m.ps zs (nmTo zs Gs m.ps.length Gs.length) l → BunsOk k m.ps zs (nmTo zs Gs m.ps.length Gs.length) l.buns := fun a => a.buns
  have hB2 : LodOk k m.ps zs (nmTo zs Gs m.ps.length Gs.length) l → TrasOk k l := fun a => a.tras
  have hB3 : LodOk k m.ps zs (nmTo zs Gs m.ps.length Gs.length) l → ConsOk k l := fun a => a.cons
  obtain ⟨PB, hPB⟩ : ∃ P, P = BunsOk k m.ps zs (nmTo zs Gs m.ps.length Gs.length) l.buns := ⟨_, rfl⟩
  obtain ⟨PT, hPT⟩ : ∃ P, P = TrasOk k l := ⟨_, rfl⟩
  obtain ⟨PC, hPC⟩ : ∃ P, P = ConsOk k l := ⟨_, rfl⟩
  obtain ⟨PL, hPL⟩ : ∃ P, P = LodOk k m.ps zs (nmTo zs Gs m.ps.length Gs.length) l := ⟨_, rfl⟩
  rw [← hPB] at HBR hOK hB1
  rw [← hPT] at HTR hOK hB2
  rw [← hPC] at HCR hOK hB3
  rw [← hPL] at hOK hB1 hB2 hB3 ⊢
  have HZ := Lib.hid hz
  obtain ⟨az, cz, rfl, hzc⟩ := hz
  obtain ⟨av, cv, rfl, _⟩ := hrp
  have HZC := Lib.hid hzc
  have HITL := Lib.hid hitl
  have HZL := Lib.hid hzl
  have HOK := Lib.hid (And.intro hOK (And.intro hB1 (And.intro hB2 hB3)))
  obtain ⟨nmF, hnm⟩ : ∃ f : Nat → List ByteArray, f = nmTo zs Gs m.ps.length := ⟨_, rfl⟩
  rw [← hnm] at HBR HNS HNL HN0
  clear hcl hG hidg hup hr hrl hs hid hn hA h hzc hOK hB1 hB2 hB3 hPB hPT hPC hPL hnm hitl hGs hnl hzl
  unfold maiV pckV lodV at *
  obtain ⟨kp, kg, kb, kt⟩ := k
  obtain ⟨cls, ctr, org, ps⟩ := m
  dsimp only at *
  obtain ⟨w3, hw3⟩ : ∃ w3, w3 = ((w.alloc (.cells #[.int .u8 cls, .int .u8 ctr, .string org, .slice av ps.length cv] 29)).alloc (.cells #[.int .i64 kp, .int .i64 kg, .int .i64 kb, .int .i64 kt] 32)).alloc (.cells #[vb, vt, vc] 39) := ⟨_, rfl⟩
  obtain ⟨g1, g2, g3⟩ := boxes3 hw3
  have hz3 : w3.heap.size = w.heap.size + 1 + 1 + 1 := by rw [hw3, World.size_alloc, World.size_alloc, World.size_alloc]
  have hb3 : Below w.heap.size w w3 := by
    rw [hw3]
    exact (((Below.refl _ w).alloc (Nat.le_refl _) _).alloc (by simp) _).alloc (by simp; omega) _
  have HBX := Lib.hid (fun (W : World) (hB : Below w3.heap.size w3 W) => And.intro (cells4 ((hB.block _ (by omega)).trans g1)) (And.intro (cells4 ((hB.block _ (by omega)).trans g2)) (cells3 ((hB.block _ (by omega)).trans g3))))
  have HW3 := Lib.hid hw3
  have HB3 := Lib.hid hb3
  clear hw3 hb3 hz3 g1 g2 g3
  obtain ⟨⟨x0, x1, x2, x3⟩, ⟨y0, y1, y2, y3⟩, _⟩ := HBX.out w3 (Below.refl _ _)
  go_enter Tryz.func49, Tryz.ntmps49
  go_upto_region 1 with fail
  rw [← HW3.out]
  go_upto_region 7 with (first
    | (go_at_call 45; refine (HAL.out _ HB3.out).mono ?_; rintro e w4 ⟨rfl, hb4⟩; obtain ⟨⟨p0, p1, p2, p3⟩, ⟨q0, q1, q2, q3⟩, _⟩ := HBX.out w4 hb4; have hw4 := HB3.out.trans (hb4.mono HB3.out.size))
    | (go_at_call 46; refine (HGO.out _ hw4).mono ?_; rintro e wg ⟨ag, cg, rfl, hbg, hrg⟩; have HBG3 := Lib.hid (hb4.trans (hbg.mono hb4.size)); have HBGW := Lib.hid (hw4.trans (hbg.mono hw4.size)); have HRG := Lib.hid hrg; clear hbg hrg))
  clear p0 p1 p2 p3 q0 q1 q2 q3 hb4 hw4 x0 x1 x2 x3 y0 y1 y2 y3
  obtain ⟨⟨x0, x1, x2, x3⟩, _, _⟩ := HBX.out wg HBG3.out
  have hmk := fun W => run_make_row' (P := Tryz.prog) 126 9 (.string ⟨#[]⟩) 16 Tryz.underlying126 Tryz.infoSt rfl .i64 .i64 ps.length (by omega) (by omega) W
  obtain ⟨w5, hw5⟩ : ∃ w5, w5 = wg.alloc (.cells (madeCells #[Value.string ⟨#[]⟩] ps.length) 9) := ⟨_, rfl⟩
  have hst : StrsAt w5 wg.heap.size (nmF 0) := by rw [hw5, HN0.out]; exact made_strs wg ps.length
  have hb5 : Below wg.heap.size wg w5 := by rw [hw5]; exact (Below.refl _ _).alloc (Nat.le_refl _) _
  have HST := Lib.hid hst
  have HB5 := Lib.hid hb5
  have HW5 := Lib.hid hw5
  clear hst hb5 hw5
  go_upto_region 8 with fail
  rw [← HW5.out]
  clear hmk x0 x1 x2 x3
  go_wp2_with fail
  go_loopw [43] (fun i wx => ∃ j : Nat, j ≤ Gs.length ∧ i = .int .i64 j ∧ Below wg.heap.size wg wx ∧ StrsAt wx wg.heap.size (nmF j)) (fun i _ => Gs.length - (intOf i).toNat)
  case atStart => exact ⟨0, Nat.zero_le _, rfl, HB5.out, HST.out⟩
  case round =>
    obtain ⟨wo, hwo⟩ : ∃ x, x = wr := ⟨_, rfl⟩
    subst hwo
    obtain ⟨j, hj, rfl, hB, hS⟩ := hrel
    have HB := Lib.hid hB
    have HS := Lib.hid hS
    by_cases hlt : j < Gs.length
    · obtain ⟨gg, og, rfl, hgg, hcg⟩ := RdGrps.lies HRG.out (by omega)
      obtain ⟨sv, hsv, hgat⟩ := hcg j hlt
      have hns := HNS.out j hlt
      have hnl := HNL.out j hj
      obtain ⟨hil, hit⟩ := HITL.out _ (List.getElem_mem hlt)
      obtain ⟨x, hx⟩ : ∃ x, x = Gs[j] := ⟨_, rfl⟩
      rw [← hx] at hsv hgat hns hil hit
      have hsv2 := hsv.below hB
      obtain ⟨asx, csx, hsf, hsx⟩ := id hsv
      subst hsf
      obtain ⟨g0, g1, g2, g3⟩ := hgat.below hB hgg
      obtain ⟨Wq, hWq⟩ : ∃ W, W = wo.alloc (.cells #[.int .i64 x.lvl, .string x.name, .int .i64 x.up, .slice asx x.items.length csx] 114) := ⟨_, rfl⟩
      have hbq : Below wo.heap.size wo Wq := by rw [hWq]; exact (Below.refl _ _).alloc (Nat.le_refl _) _
      have hNq : Wq.heap[wo.heap.size]? = some (.cells #[.int .i64 x.lvl, .string x.name, .int .i64 x.up, .slice asx x.items.length csx] 114 (0, 0)) := by rw [hWq]; exact alloc_new wo _
      have HWQ := Lib.hid hWq
      have HNQ := Lib.hid hNq
      have HBQ := Lib.hid (hB.trans (hbq.mono hB.size))
      have HSQ := Lib.hid (hS.below hbq hS.lt)
      have HNE : Hid (wo.heap.size ≠ wg.heap.size) := Lib.hid (fun e => by have := hS.lt; omega)
      have HSX := Lib.hid hsx
      have HIT := Lib.hid hit
      have HNS2 := Lib.hid hns
      have HNL2 := Lib.hid hnl
      obtain ⟨n0, n1, n2, n3⟩ := cells4 hNq
      clear hx hcg hgat hsv2 hWq hbq hNq hns hnl hit hsx hS hB hsv
      go_upto_region 11 with fail
      rw [← HWQ.out]
      go_wp2_with fail
      go_loopw [50] (fun i wx => ∃ p : Nat, p ≤ x.items.length ∧ i = .int .i64 p ∧ Below wg.heap.size wg wx ∧ wx.heap[wo.heap.size]? = some (.cells #[.int .i64 x.lvl, .string x.name, .int .i64 x.up, .slice asx x.items.length csx] 114 (0, 0)) ∧ StrsAt wx wg.heap.size (nmI zs x (nmF j) (x.items.take p))) (fun i _ => x.items.length - (intOf i).toNat)
      case atStart => exact ⟨0, Nat.zero_le _, rfl, HBQ.out, HNQ.out, HSQ.out⟩
      case round =>
        clear n0 n1 n2 n3 g0 g1 g2 g3
        obtain ⟨wi, hwi⟩ : ∃ x, x = wr := ⟨_, rfl⟩
        subst hwi
        obtain ⟨p, hp, rfl, hBi, hNi, hSi⟩ := hrel
        have HBI := Lib.hid hBi
        have HNI := Lib.hid hNi
        by_cases hlp : p < x.items.length
        · obtain ⟨gs, os, rfl, hgs, hcs⟩ := HSX.out (by omega)
          have e1 := (hBi.cell (p := ⟨gs, os + p, none⟩) hgs).trans (hcs p hlp)
          obtain ⟨i0, i1⟩ := HIT.out _ (List.getElem_mem hlp)
          have htk : x.items.take (p + 1) = x.items.take p ++ [x.items[p]] := List.take_succ_eq_append_getElem hlp
          have hsn := nmI_snoc zs x (nmF j) (x.items.take p) x.items[p]
          rw [← htk] at hsn
          obtain ⟨it, hite⟩ : ∃ it, it = x.items[p] := ⟨_, rfl⟩
          rw [← hite] at e1 i0 i1 hsn
          obtain ⟨q, rfl⟩ : ∃ q : Nat, it = (q : Int) := ⟨it.toNat, (Int.toNat_of_nonneg i0).symm⟩
          rw [Int.toNat_natCast] at i1
          unfold nmStep at hsn
          rw [Int.toNat_natCast] at hsn
          have hqz : q < zs.length := by rw [HZL.out]; exact i1
          obtain ⟨gz, oz, rfl, hgz, hcz⟩ := HZC.out (by omega)
          have e2 := ((HBGW.out.trans (hBi.mono HBGW.out.size)).cell (p := ⟨gz, oz + q, none⟩) hgz).trans (hcz q hqz)
          have hzd : zs.getD q (-1) = zs[q] := by rw [List.getD_eq_getElem?_getD, List.getElem?_eq_getElem hqz]; rfl
          rw [hzd] at hsn
          obtain ⟨z, hze⟩ : ∃ z, z = zs[q] := ⟨_, rfl⟩
          rw [← hze] at hsn e2
          have hnlq : q < (nmI zs x (nmF j) (x.items.take p)).length := by rw [nmI_len, HNL2.out]; exact i1
          obtain ⟨ns, hns⟩ : ∃ ns, ns = nmI zs x (nmF j) (x.items.take p) := ⟨_, rfl⟩
          rw [← hns] at hsn hSi hnlq
          have HSN := Lib.hid hsn
          have HSI := Lib.hid hSi
          have HNLQ := Lib.hid hnlq
          obtain ⟨n0, n1, n2, n3⟩ := cells4 hNi
          clear hcs htk hsn hite hcz hzd hze hns hnlq hNi hBi hSi
          by_cases hzl : z = x.lvl
          · have hbq : (z == x.lvl) = .true := by simp [hzl]
            have hst := HSN.out
            rw [if_pos hzl] at hst
            have HST2 := Lib.hid hst
            clear hst hzl
            go_wp2_with fail
            go_quiet (fail)
            obtain ⟨wd, hwd⟩ : ∃ wd, wd = wi.drewN nq := ⟨_, rfl⟩
            rw [← hwd]
            have hbd : Below wi.heap.size wi wd := by rw [hwd]; exact below_drewN (Below.refl _ _) _
            have hsd := HSI.out.below hbd HSI.out.lt
            have hnd := (hbd.block _ (Array.getElem?_eq_some_iff.1 HNI.out).1).trans HNI.out
            have c1 := hsd.cell HNLQ.out
            have c2 := hsd.free q
            obtain ⟨n0, n1, n2, n3⟩ := cells4 hnd
            have HSD := Lib.hid hsd
            have HND := Lib.hid hnd
            have HBD := Lib.hid (HBI.out.trans (hbd.mono HBI.out.size))
            clear hwd hbd hsd hnd e1 e2
            go_wp2_with fail
            go_roundw
            case rel =>
              refine ⟨p + 1, by omega, by go_num, HBD.out.setCell (p := ⟨wg.heap.size, q, none⟩) (Nat.le_refl _) _, (set_other HNE.out).trans HND.out, ?_⟩
              rw [HST2.out]
              exact HSD.out.set q _
            case measure => simp [intOf]; omega
          · have hbq : (z == x.lvl) = .false := by simp [hzl]
            have hst := HSN.out
            rw [if_neg hzl] at hst
            have HST2 := Lib.hid hst
            clear hst hzl
            go_wp2_with fail
            go_quiet (fail)
            obtain ⟨wd, hwd⟩ : ∃ wd, wd = wi.drewN nq := ⟨_, rfl⟩
            rw [← hwd]
            have hbd : Below wi.heap.size wi wd := by rw [hwd]; exact below_drewN (Below.refl _ _) _
            have HSD := Lib.hid (HSI.out.below hbd HSI.out.lt)
            have HND := Lib.hid ((hbd.block _ (Array.getElem?_eq_some_iff.1 HNI.out).1).trans HNI.out)
            have HBD := Lib.hid (HBI.out.trans (hbd.mono HBI.out.size))
            clear hwd hbd e1 e2
            go_wp2_with fail
            go_roundw
            case rel =>
              refine ⟨p + 1, by omega, by go_num, HBD.out, HND.out, ?_⟩
              rw [HST2.out]
              exact HSD.out
            case measure => simp [intOf]; omega
        · obtain rfl : p = x.items.length := by omega
          rw [List.take_length] at hSi
          have HSI := Lib.hid hSi
          clear hSi hBi hNi
          go_wp2_with fail
          go_roundw
          case rel => exact ⟨j + 1, by omega, by go_num, HBI.out, by rw [HNS2.out]; exact HSI.out⟩
          case measure => simp [intOf]; omega
    · obtain rfl : j = Gs.length := by omega
      have hwo : Below w.heap.size w wo := HBGW.out.trans (hB.mono HBGW.out.size)
      have h3o : Below w3.heap.size w3 wo := HBG3.out.trans (hB.mono HBG3.out.size)
      have hnl := HNL.out Gs.length (Nat.le_refl _)
      have hrd := hS.rd ps.length
      rw [hnl] at hrd
      have HWO := Lib.hid hwo
      have H3O := Lib.hid h3o
      have HRD := Lib.hid hrd
      clear hS hnl hrd hwo h3o hB hj hlt
      go_upto_region 18 with fail
      obtain ⟨⟨p0, p1, p2, p3⟩, ⟨q0, q1, q2, q3⟩, r0, r1, r2⟩ := HBX.out wo H3O.out
      by_cases hb : PB
      · have HPB := Lib.hid hb
        clear hb
        by_cases ht : PT
        · have HPT := Lib.hid ht
          clear ht
          by_cases hc : PC
          · have hy : PL := HOK.out.1 HPB.out HPT.out hc
            have HPC := Lib.hid hc
            have HY := Lib.hid hy
            clear hc hy
            go_wp2_with (first
              | (go_at_call 105; refine (HBR.out wo _ HWO.out HRD.out).mono ?_; rintro e w6 ⟨u, rfl, hb6, hu⟩; have hu := hu.true HPB.out; subst hu; have hw6 := HWO.out.trans (hb6.mono HWO.out.size); obtain ⟨_, ⟨s0, s1, s2, s3⟩, t0, t1, t2⟩ := HBX.out w6 (H3O.out.trans (hb6.mono H3O.out.size)))
              | (go_at_call 106; refine (HTR.out w6 hw6).mono ?_; rintro e w7 ⟨u, rfl, hb7, hu⟩; have hu := hu.true HPT.out; subst hu; have hw7 := hw6.trans (hb7.mono hw6.size); have h37 := H3O.out.trans ((hb6.trans (hb7.mono hb6.size)).mono H3O.out.size); obtain ⟨_, ⟨o0, o1, o2, o3⟩, v0, v1, v2⟩ := HBX.out w7 h37)
              | (go_at_call 107; refine (HCR.out w7 hw7).mono ?_; rintro e w8 ⟨u, rfl, hb8, hu⟩; have hu := hu.true HPC.out; subst hu))
            go_ret2
            exact ⟨_, rfl, hw7.trans (hb8.mono hw7.size), IsB.yes HY.out⟩
          · have hno : ¬ PL := fun h => hc (HOK.out.2.2.2 h)
            have HPC := Lib.hid hc
            have HNO := Lib.hid hno
            clear hc hno
            go_wp2_with (first
              | (go_at_call 105; refine (HBR.out wo _ HWO.out HRD.out).mono ?_; rintro e w6 ⟨u, rfl, hb6, hu⟩; have hu := hu.true HPB.out; subst hu; have hw6 := HWO.out.trans (hb6.mono HWO.out.size); obtain ⟨_, ⟨s0, s1, s2, s3⟩, t0, t1, t2⟩ := HBX.out w6 (H3O.out.trans (hb6.mono H3O.out.size)))
              | (go_at_call 106; refine (HTR.out w6 hw6).mono ?_; rintro e w7 ⟨u, rfl, hb7, hu⟩; have hu := hu.true HPT.out; subst hu; have hw7 := hw6.trans (hb7.mono hw6.size); have h37 := H3O.out.trans ((hb6.trans (hb7.mono hb6.size)).mono H3O.out.size); obtain ⟨_, ⟨o0, o1, o2, o3⟩, v0, v1, v2⟩ := HBX.out w7 h37)
              | (go_at_call 107; refine (HCR.out w7 hw7).mono ?_; rintro e w8 ⟨u, rfl, hb8, hu⟩; have hu := hu.false HPC.out; subst hu))
            go_ret2
            exact ⟨_, rfl, hw7.trans (hb8.mono hw7.size), IsB.no HNO.out⟩
        · have hno : ¬ PL := fun h => ht (HOK.out.2.2.1 h)
          have HPT := Lib.hid ht
          have HNO := Lib.hid hno
          clear ht hno
          go_wp2_with (first
            | (go_at_call 105; refine (HBR.out wo _ HWO.out HRD.out).mono ?_; rintro e w6 ⟨u, rfl, hb6, hu⟩; have hu := hu.true HPB.out; subst hu; have hw6 := HWO.out.trans (hb6.mono HWO.out.size); obtain ⟨_, ⟨s0, s1, s2, s3⟩, t0, t1, t2⟩ := HBX.out w6 (H3O.out.trans (hb6.mono H3O.out.size)))
            | (go_at_call 106; refine (HTR.out w6 hw6).mono ?_; rintro e w7 ⟨u, rfl, hb7, hu⟩; have hu := hu.false HPT.out; subst hu))
          go_ret2
          exact ⟨_, rfl, hw6.trans (hb7.mono hw6.size), IsB.no HNO.out⟩
      · have HNB := Lib.hid hb
        have hno : ¬ PL := fun h => hb (HOK.out.2.1 h)
        have HNO := Lib.hid hno
        clear hb hno
        go_wp2_with (go_at_call 105; refine (HBR.out wo _ HWO.out HRD.out).mono ?_; rintro e w6 ⟨u, rfl, hb6, hu⟩; have hu := hu.false HNB.out; subst hu)
        go_ret2
        exact ⟨_, rfl, below_c HWO.out HWO.out.size hb6, IsB.no HNO.out⟩
end Go.Proofs.YtojedplbhialpaaGreatDoor

/-! T9 -/
namespace Go.Proofs.YtojedplbhialpaaGreatDoor
open Go.RowKit
set_option linter.unusedVariables false
set_option maxRecDepth 100000
noncomputable def lodP (k : Pck) (ps : List Pce) (zs : List Int) (Gs : List Grp) : Lod := ⟨(pkTo k ps zs Gs Gs.length).buns, (pkTo k ps zs Gs Gs.length).tras, (pkTo k ps zs Gs Gs.length).cons⟩
structure Pkd (k : Pck) (ps : List Pce) (zs : List Int) (ns : List ByteArray) (l : Lod) : Prop where
  ok : LodOk k ps zs ns l
  ord : l.buns.Pairwise BunLe
  own : ∀ b ∈ l.buns, b.ids ≠ [] ∧ b.ids.Pairwise (· < ·) ∧ ∀ i ∈ b.ids, 0 < i ∧ i ≤ 999999
  nb : l.tras.flatMap (fun t => t.bs) = numsR 0 l.buns.length
  nt : l.cons.flatMap (fun c => c.ts) = numsR 0 l.tras.length
  bf : ∀ a b, NextIn l.buns a b → a.lvl = b.lvl → a.grp = b.grp → ∃ i : Int, 0 ≤ i ∧ i.toNat < ps.length ∧ b.ids.head? = some (pcAt ps i).id ∧ ¬ ((a.ids.length : Int) < k.pieces ∧ a.grams + (pcAt ps i).grams ≤ k.grams)
  tf : ∀ a b, NextIn l.tras a b → a.lvl = b.lvl → a.grp = b.grp → (a.bs.length : Int) = k.bundles
  cf : ∀ a b, NextIn l.cons a b → a.lvl = b.lvl → (a.ts.length : Int) = k.trays
  lens : l.buns.length ≤ ps.length ∧ l.tras.length ≤ ps.length ∧ l.cons.length ≤ ps.length
  idn : (l.buns.flatMap (fun b => b.ids)).length = ps.length
theorem pcAt_memN {ps : List Pce} {i : Int} (h : i.toNat < ps.length) : pcAt ps i ∈ ps := by
  unfold pcAt
  rw [List.getD_eq_getElem?_getD, List.getElem?_eq_getElem h]
  exact List.getElem_mem h
theorem pkd_of {ls : List Lev} {m : Mai} (h : HasPlan ls m) {zs : List Int} (hzl : zs.length = m.ps.length) (hn : numsB ls.length zs = true) {k : Pck} (hk : pckB k = true) (hkg : ∀ p ∈ m.ps, p.grams ≤ k.grams) :
    Pkd k m.ps zs (nmTo zs (gAll ls (codesM m.ps) ls.length) m.ps.length (gAll ls (codesM m.ps) ls.length).length) (lodP k m.ps zs (gAll ls (codesM m.ps) ls.length)) := by
  obtain ⟨hidg, hu⟩ := mail_ids h.mail
  have hcl : (codesM m.ps).length = m.ps.length := codesM_len _
  have hG : GrpsIn m.ps (gAll ls (codesM m.ps) ls.length) := gAll_in hcl
  have hO : OwnIn m.ps zs (gAll ls (codesM m.ps) ls.length) := gAll_own hcl hzl hn
  have hkk : (1 ≤ k.pieces ∧ k.pieces ≤ 2000 ∧ 1 ≤ k.grams ∧ k.grams ≤ 1000000) ∧ (1 ≤ k.bundles ∧ k.bundles ≤ 200 ∧ 1 ≤ k.trays ∧ k.trays ≤ 200) := by
    unfold pckB at hk
    rw [Bool.and_eq_true, decide_eq_true_eq, decide_eq_true_eq] at hk
    exact hk
  obtain ⟨Gs, hGs⟩ : ∃ Gs, Gs = gAll ls (codesM m.ps) ls.length := ⟨_, rfl⟩
  rw [← hGs] at hG hO ⊢
  have hk1 : 1 ≤ k.pieces := hkk.1.1
  have hg0 : 0 ≤ k.grams := by omega
  have hb1 : 1 ≤ k.bundles := hkk.2.1
  have ht1 : 1 ≤ k.trays := by omega
  have hok := pk_ok hb1 ht1 m.ps zs Gs Gs.length (Nat.le_refl _)
  have hF := pk_full hb1 ht1 hG.order (ps := m.ps) (zs := zs) Gs.length (Nat.le_refl _)
  have hl := pk_lodOk hk1 hg0 hb1 ht1 hkg hu hG hO
  have hs := pk_small hk1 hg0 hb1 ht1 hkg hu hG hO Gs.length (Nat.le_refl _)
  have hbn := hok.buns
  rw [List.take_length] at hbn
  have hbeg := hok.fin (.inr (fun h => absurd h (Nat.lt_irrefl _)))
  refine ⟨hl, ?_, ?_, hok.nb, ?_, ?_, hF.tf, hF.cf, ⟨hs.1, hs.2.1, hs.2.2.1⟩, hl.buns.all⟩
  · show (pkTo k m.ps zs Gs Gs.length).buns.Pairwise BunLe
    rw [hbn]
    exact buns_order hk1 hg0 hkg hu hG
  · show ∀ b ∈ (pkTo k m.ps zs Gs Gs.length).buns, _
    intro b hb
    obtain ⟨I, hI, hid, _⟩ := hl.buns.good b hb
    rw [hbn] at hb
    obtain ⟨x, hx, hb⟩ := List.mem_flatMap.1 hb
    have h2 := (bunsOf_in (zs := zs) hk1 hg0 hkg hu hG hx).2 b hb
    refine ⟨h2.2.2.1, h2.2.2.2.2.2, fun i hi => ?_⟩
    rw [hid] at hi
    obtain ⟨j, hj, rfl⟩ := List.mem_map.1 hi
    have := hidg _ (pcAt_memN (hI j hj).2.1)
    exact ⟨this.1, this.2.1⟩
  · show (pkTo k m.ps zs Gs Gs.length).cons.flatMap _ = numsR 0 (pkTo k m.ps zs Gs Gs.length).tras.length
    rw [hok.nt, hbeg]
  · show ∀ a b, NextIn (pkTo k m.ps zs Gs Gs.length).buns a b → _
    rw [hbn]
    intro a b hab h1 h2
    exact buns_full hk1 hg0 hkg hu hG hab h1 h2
theorem Pkd.smallL {k : Pck} {ps : List Pce} {zs : List Int} {ns : List ByteArray} {l : Lod} (h : Pkd k ps zs ns l) (hp : ps.length ≤ 100000) : SmallL l := by
  obtain ⟨h1, h2, h3⟩ := h.lens
  refine ⟨by omega, by omega, by omega, by rw [h.idn]; exact hp, ?_, ?_⟩
  · rw [h.nb, numsR_len]; omega
  · rw [h.nt, numsR_len]; omega
end Go.Proofs.YtojedplbhialpaaGreatDoor
