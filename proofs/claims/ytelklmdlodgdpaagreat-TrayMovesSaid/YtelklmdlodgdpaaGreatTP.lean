/-
  tray.containersRight.
-/
import Derived.Test.YtelklmdlodgdpaaGreatTO
namespace Go.Proofs.YtelklmdlodgdpaaGreat
open Go.RowKit Go.Sort
set_option linter.unusedVariables false
set_option maxRecDepth 100000
theorem cells2 {w : World} {g : Nat} {a b : Value} {t : TypeId} {fr : Nat × Nat} (h : w.heap[g]? = some (.cells #[a, b] t fr)) : w.cell? ⟨g, 0, none⟩ = some a ∧ w.cell? ⟨g, 1, none⟩ = some b := ⟨cell_of_row _ _ 0 _ _ _ h, cell_of_row _ _ 1 _ _ _ h⟩
set_option maxHeartbeats 16000000 in
theorem containersRight_any (k : Pck) (l : Lod) (vb vt vc : Value) (w : World) (hr : RdLod w vb vt vc l) (hs : SmallL l) :
    Calls Tryz.prog 31 #[pckV k, lodV vb vt vc] w fun e w' => ∃ v, e = .returned v ∧ Below w.heap.size w w' ∧ IsB v (ConsOk k l) := by
  obtain ⟨i0, hi⟩ := info_parts Tryz.infoSlT
  have HI := Lib.hid hi
  obtain ⟨ab, cb, hvb, hcb⟩ := hr.b
  obtain ⟨at', ct, hvt, hct⟩ := hr.t
  obtain ⟨ac, cc, hvc, hccx⟩ := hr.c
  subst hvb hvt hvc
  have hnb := hs.t
  have hnt := hs.c
  have hti := hs.ci
  have hpl := fun x hx => part_le (f := fun t : Con => t.ts) hs.ci x hx
  have HON := Lib.hid (fun W v (hb : RdLL W v (l.cons.map (fun t => t.ts))) => once_any (l.cons.map (fun t => t.ts)) l.tras.length k.trays v W hb (by omega) (by rw [flat_bs]; omega) (by rw [List.length_map]; omega))
  have hOK := fun (h : OnceOk (l.cons.map (fun t => t.ts)) l.tras.length k.trays) (h2 : ∀ t ∈ l.cons, ∀ i ∈ t.ts, ∃ b, l.tras[i.toNat]? = some b ∧ b.lvl = t.lvl) => (⟨h, h2⟩ : ConsOk k l)
  have hNO := fun (h : ConsOk k l) => h
  unfold lodV pckV
  obtain ⟨kp, kg, kb, kt⟩ := k
  obtain ⟨bs, ts, cs⟩ := l
  dsimp only at *
  obtain ⟨w2, hw2⟩ : ∃ w2, w2 = (w.alloc (.cells #[.int .i64 kp, .int .i64 kg, .int .i64 kb, .int .i64 kt] 32)).alloc (.cells #[.slice ab bs.length cb, .slice at' ts.length ct, .slice ac cs.length cc] 39) := ⟨_, rfl⟩
  obtain ⟨g1, g2, z2, b2⟩ := boxes2 hw2
  obtain ⟨x0, x1, x2⟩ := cells3 g2
  have HW2 := Lib.hid hw2
  have HB2 := Lib.hid b2
  have HL := Lib.hid (fun (W : World) (hB : Below w2.heap.size w2 W) => And.intro (cells4 ((hB.block _ (by omega)).trans g1)) (cells3 ((hB.block _ (by omega)).trans g2)))
  have HCB := Lib.hid hct
  have HCT := Lib.hid hccx
  have HOK := Lib.hid hOK
  have HPL := Lib.hid hpl
  clear hw2 g1 g2 z2 b2 hcb hct hccx hr hs hOK hNO hi hpl
  go_enter Tryz.func31, Tryz.ntmps31
  go_upto_region 1 with fail
  rw [← HW2.out]
  go_wp2_with (at_make; refine wpList_make_own _ rfl _ _ 83 rfl w2.heap.size 30 i0 (.slice none 0 0) 1 Tryz.underlying83 HI.out.1 HI.out.2.1 HI.out.2.2.1 _ _ _ cs.length rfl (by first | rfl | simp) rfl (by rw [HI.out.2.2.2]; omega) (by unfold maxLen; omega) (Nat.le_refl _) ?_; intro w3 hown hgrow; have hb3 : Below w2.heap.size w2 w3 := (Below.refl _ _).grown hgrow (Nat.le_refl _) (fun _ e => by cases e); have HB3 := Lib.hid hb3; have HO3 := Lib.hid hown; clear hgrow hown; obtain ⟨⟨u0, u1, u2, u3⟩, v0, v1, v2⟩ := HL.out w3 hb3)
  go_loopw [5, 19] (fun lv i wx => ∃ q : Nat, q ≤ cs.length ∧ i = .int .i64 q ∧ Below w2.heap.size w2 wx ∧ OwnsRL w wx w2.heap.size lv ((cs.take q).map (fun t => t.ts))) (fun _ i _ => cs.length - (intOf i).toNat)
  case atStart => exact ⟨0, Nat.zero_le _, rfl, HB3.out, ⟨[], by simp, by simp, HO3.out⟩⟩
  case round =>
    clear u0 u1 u2 u3 v0 v1 v2 hb3 x0 x1 x2
    obtain ⟨q, hq, rfl, hB, hO⟩ := hrel
    have HBB := Lib.hid hB
    by_cases hlt : q < cs.length
    · obtain ⟨g, off, rfl, hg, hcc⟩ := HCT.out (by omega)
      obtain ⟨s, hs, hcell⟩ := hcc q hlt
      have htk : (cs.take (q + 1)).map (fun t => t.ts) = (cs.take q).map (fun t => t.ts) ++ [cs[q].ts] := by rw [List.take_succ_eq_append_getElem hlt, List.map_append]; rfl
      obtain ⟨t, ht⟩ : ∃ t, t = cs[q] := ⟨_, rfl⟩
      rw [← ht] at hs hcell htk
      have hbw : Below w.heap.size w wr := HB2.out.trans (hB.mono HB2.out.size)
      have f0 : wr.cell? ⟨g, off + q * 2, none⟩ = some (.int .i64 t.lvl) := (hbw.cell (p := ⟨g, off + q * 2, none⟩) hg).trans (hcell 0 _ rfl)
      have f2 : wr.cell? ⟨g, off + q * 2 + 1, none⟩ = some s := (hbw.cell (p := ⟨g, off + q * 2 + 1, none⟩) hg).trans (hcell 1 _ rfl)
      have HS := Lib.hid hs
      obtain ⟨as1, cs', rfl, _⟩ := hs
      have HTK := Lib.hid htk
      obtain ⟨av, cv, hlv⟩ := hO.form
      have hle : ((cs.take q).map (fun t => t.ts)).length = q := by rw [List.length_map, List.length_take]; omega
      rw [hle] at hlv
      subst hlv
      obtain ⟨L, hL, hLr, hLo⟩ := hO
      have hLl : L.length = q := by rw [← hle, ← hL, List.length_map]
      subst hLl
      have HL0 := Lib.hid hL
      have HLR := Lib.hid hLr
      have hLo2 := (hLo.alloc (.cells #[.int .i64 t.lvl, .slice as1 t.ts.length cs'] 51)).alloc (.cells #[.slice as1 t.ts.length cs'] 30)
      have HLO := Lib.hid hLo2
      have HLT := Lib.hid (fun r e => (hLo.lt r e).1)
      clear ht hcell hcc hbw htk hL hLr hLo hLo2 hle hB
      go_wp2_with (at_builtin; refine wpList_append_own _ rfl _ _ 83 rfl w2.heap.size 30 i0 (.slice none 0 0) 1 24 Tryz.underlying83 HI.out.1 HI.out.2.1 HI.out.2.2.1 HI.out.2.2.2 rfl (by decide) _ L.length _ rfl HLO.out ⟨wr.heap.size + 1, 0, none⟩ 1 1 [.slice as1 t.ts.length cs'] rfl (by simp) (by simpa using cell_one_new (wr.alloc (.cells #[.int .i64 t.lvl, .slice as1 t.ts.length cs'] 51)) (.slice as1 t.ts.length cs') 30) (by simp [Value.oneCell']) (by unfold maxLen; omega) (by omega) (by have := HBB.out.size; simp; omega) ?_; intro v' w5 hown' hgrow _)
      go_roundw
      case rel =>
        refine ⟨L.length + 1, by omega, by go_num, ((HBB.out.alloc HBB.out.size _).alloc (by have := HBB.out.size; simp; omega) _).grown hgrow (by have := HBB.out.size; simp; omega) (fun r e => HLT.out r e), L ++ [(t.ts, .slice as1 t.ts.length cs')], ?_, ?_, ?_⟩
        · rw [HTK.out, List.map_append, HL0.out]; rfl
        · intro p hp
          rcases List.mem_append.1 hp with hp | hp
          · exact HLR.out p hp
          · rw [List.mem_singleton.1 hp]; exact HS.out
        · rw [List.length_append, List.map_append]
          exact hown'
      case measure => simp [intOf]; omega
    · obtain rfl : q = cs.length := by omega
      rw [List.take_length] at hO
      have hbw : Below w.heap.size w wr := HB2.out.trans (hB.mono HB2.out.size)
      have HR := Lib.hid (hO.rd hbw)
      obtain ⟨av, cv, hlv⟩ := hO.form
      rw [List.length_map] at hlv
      subst hlv
      have HBW := Lib.hid hbw
      obtain ⟨⟨u0, u1, u2, u3⟩, v0, v1, v2⟩ := HL.out wr hB
      clear hO hbw hB
      go_upto_region 7 with fail
      go_cut [36] from 29 to 36 (fun b wx => ∃ c : Bool, b = .bool (!c) ∧ (c = true ↔ OnceOk (cs.map (fun t => t.ts)) ts.length kt) ∧ Below wr.heap.size wr wx)
      case first =>
        go_wp2_with (go_at_call 61; refine (HON.out wr _ HR.out).mono ?_; rintro e w6 ⟨vv, rfl, hb6, r, rfl, hr⟩)
        go_meet
        exact ⟨r, rfl, hr, hb6⟩
      case rest =>
        clear u0 u1 u2 u3 v0 v1 v2
        obtain ⟨wp, hwp⟩ : ∃ x, x = wc := ⟨_, rfl⟩
        subst hwp
        obtain ⟨c, rfl, hc, hbc⟩ := hcut
        have HB6 := Lib.hid (HBB.out.trans (hbc.mono HBB.out.size))
        have HC := Lib.hid hc
        clear hbc hc
        cases c
        · have hr : ¬ ConsOk ⟨kp, kg, kb, kt⟩ ⟨bs, ts, cs⟩ := fun h => by have := HC.out.2 h.once; cases this
          have HRR := Lib.hid hr
          clear hr
          go_wp2_with fail
          go_ret
          exact ⟨_, rfl, HB2.out.trans (HB6.out.mono HB2.out.size), IsB.no HRR.out⟩
        · have hon := HC.out.1 rfl
          have hin := fun t (ht : t ∈ cs) i (hi : i ∈ t.ts) => hon.ins i (by rw [flat_bs]; exact List.mem_flatMap.2 ⟨t, ht, hi⟩)
          have HON2 := Lib.hid hon
          have HIN := Lib.hid hin
          obtain ⟨⟨u0, u1, u2, u3⟩, v0, v1, v2⟩ := HL.out wp HB6.out
          clear hon hin
          go_wp2_with fail
          go_loopw [40] (fun i wx => ∃ q : Nat, q ≤ cs.length ∧ i = .int .i64 q ∧ Below w2.heap.size w2 wx ∧ ∀ t ∈ cs.take q, ∀ i ∈ t.ts, ∃ b, ts[i.toNat]? = some b ∧ b.lvl = t.lvl) (fun i _ => cs.length - (intOf i).toNat)
          case atStart => exact ⟨0, Nat.zero_le _, rfl, HB6.out, by simp⟩
          case round =>
            clear u0 u1 u2 u3 v0 v1 v2
            obtain ⟨wo, hwo⟩ : ∃ x, x = wr := ⟨_, rfl⟩
            subst hwo
            obtain ⟨q, hq, rfl, hB, hal⟩ := hrel
            have HB := Lib.hid hB
            have HAL := Lib.hid hal
            clear hal
            by_cases hlt : q < cs.length
            · obtain ⟨g, off, rfl, hg, hcc⟩ := HCT.out (by omega)
              obtain ⟨s, hs, hcell⟩ := hcc q hlt
              have hbw : Below w.heap.size w wo := HB2.out.trans (hB.mono HB2.out.size)
              have hmt := List.getElem_mem hlt
              have htk : cs.take (q + 1) = cs.take q ++ [cs[q]] := List.take_succ_eq_append_getElem hlt
              have hlen := HPL.out _ hmt
              have hin := HIN.out _ hmt
              have hno : ConsOk ⟨kp, kg, kb, kt⟩ ⟨bs, ts, cs⟩ → ∀ i ∈ cs[q].ts, ∃ b, ts[i.toNat]? = some b ∧ b.lvl = cs[q].lvl := fun h => h.grp _ hmt
              obtain ⟨t, ht⟩ : ∃ t, t = cs[q] := ⟨_, rfl⟩
              rw [← ht] at hs hcell htk hlen hin hno
              have f0 : wo.cell? ⟨g, off + q * 2, none⟩ = some (.int .i64 t.lvl) := (hbw.cell (p := ⟨g, off + q * 2, none⟩) hg).trans (hcell 0 _ rfl)
              have f2 : wo.cell? ⟨g, off + q * 2 + 1, none⟩ = some s := (hbw.cell (p := ⟨g, off + q * 2 + 1, none⟩) hg).trans (hcell 1 _ rfl)
              obtain ⟨as1, cs', rfl, hsc⟩ := hs
              obtain ⟨Wt, hWt⟩ : ∃ W, W = wo.alloc (.cells #[.int .i64 t.lvl, .slice as1 t.ts.length cs'] 51) := ⟨_, rfl⟩
              have hn := alloc_new wo (.cells #[.int .i64 t.lvl, .slice as1 t.ts.length cs'] 51)
              have hbt : Below wo.heap.size wo Wt := by rw [hWt]; exact (Below.refl _ _).alloc (Nat.le_refl _) _
              have hNl : wo.heap.size < Wt.heap.size := by rw [hWt, World.size_alloc]; exact Nat.lt_succ_self _
              rw [← hWt] at hn
              have HWT := Lib.hid hWt
              have HN := Lib.hid hn
              have HNL := Lib.hid hNl
              have HTK := Lib.hid htk
              have HIN2 := Lib.hid hin
              have HNO := Lib.hid hno
              have HSC := Lib.hid hsc
              have HBT := Lib.hid (HB.out.trans (hbt.mono HB.out.size))
              have HBWT := Lib.hid (hbw.trans (hbt.mono hbw.size))
              obtain ⟨n0, n1⟩ := cells2 hn
              clear ht hcell hcc hWt hn hNl htk hin hno hsc hbw hbt hmt hB
              go_upto_region 12 with fail
              rw [← HWT.out]
              go_wp2_with fail
              go_loopw [47] (fun i wx => ∃ p : Nat, p ≤ t.ts.length ∧ i = .int .i64 p ∧ Below Wt.heap.size Wt wx ∧ ∀ i ∈ t.ts.take p, ∃ b, ts[i.toNat]? = some b ∧ b.lvl = t.lvl) (fun i _ => t.ts.length - (intOf i).toNat)
              case atStart => exact ⟨0, Nat.zero_le _, rfl, Below.refl _ _, by simp⟩
              case round =>
                clear n0 n1 f0 f2
                obtain ⟨wi, hwi⟩ : ∃ x, x = wr := ⟨_, rfl⟩
                subst hwi
                obtain ⟨p, hp, rfl, hB, hal2⟩ := hrel
                have HB3 := Lib.hid hB
                have HAL2 := Lib.hid hal2
                clear hal2
                by_cases hlp : p < t.ts.length
                · obtain ⟨gs, os, rfl, hgs, hcs⟩ := HSC.out (by omega)
                  have hbw : Below w.heap.size w wi := HBWT.out.trans (hB.mono HBWT.out.size)
                  have e1 := (hbw.cell (p := ⟨gs, os + p, none⟩) hgs).trans (hcs p hlp)
                  obtain ⟨i0', i1'⟩ := HIN2.out _ (List.getElem_mem hlp)
                  have hno := fun h => HNO.out h _ (List.getElem_mem hlp)
                  have htk2 : t.ts.take (p + 1) = t.ts.take p ++ [t.ts[p]] := List.take_succ_eq_append_getElem hlp
                  obtain ⟨x, hx⟩ : ∃ x, x = t.ts[p] := ⟨_, rfl⟩
                  rw [← hx] at e1 i0' i1' hno htk2
                  obtain ⟨j, rfl⟩ : ∃ j : Nat, x = (j : Int) := ⟨x.toNat, by omega⟩
                  have hj : j < ts.length := by omega
                  rw [Int.toNat_natCast, List.getElem?_eq_getElem hj] at hno
                  obtain ⟨gb, ob, rfl, hgb, hcb⟩ := HCB.out (by omega)
                  obtain ⟨sb, _, hcell⟩ := hcb j hj
                  have hbj : ts[j]? = some ts[j] := List.getElem?_eq_getElem hj
                  obtain ⟨b, hbe⟩ : ∃ b, b = ts[j] := ⟨_, rfl⟩
                  rw [← hbe] at hcell hno hbj
                  have b0 : wi.cell? ⟨gb, ob + j * 3, none⟩ = some (.int .i64 b.lvl) := (hbw.cell (p := ⟨gb, ob + j * 3, none⟩) hgb).trans (hcell 0 _ rfl)
                  obtain ⟨⟨u0, u1, u2, u3⟩, v0, v1, v2⟩ := HL.out wi (HBT.out.trans (hB.mono HBT.out.size))
                  obtain ⟨n0, n1⟩ := cells2 ((hB.block _ HNL.out).trans HN.out)
                  have HNO2 := Lib.hid hno
                  have HTK2 := Lib.hid htk2
                  have HBJ := Lib.hid hbj
                  clear hcell hcb hbe hno htk2 hbj hx hcs hbw hB i0' i1'
                  by_cases q1 : b.lvl = t.lvl
                  · have hbq : (b.lvl != t.lvl) = false := by simp [q1]
                    have Q := Lib.hid q1
                    clear q1
                    go_wp2_with fail
                    go_quiet (fail)
                    go_wp2_with fail
                    go_roundw
                    case rel =>
                      refine ⟨p + 1, by omega, by go_num, (by first | exact below_drewN HB3.out _ | exact HB3.out.drew), ?_⟩
                      rw [HTK2.out]
                      intro y hy
                      rcases List.mem_append.1 hy with hy | hy
                      · exact HAL2.out y hy
                      · rw [List.mem_singleton.1 hy, Int.toNat_natCast]
                        exact ⟨b, HBJ.out, Q.out⟩
                    case measure => simp [intOf]; omega
                  · have hbq : (b.lvl != t.lvl) = true := by simp [q1]
                    have hr : ¬ ConsOk ⟨kp, kg, kb, kt⟩ ⟨bs, ts, cs⟩ := fun h => by
                      obtain ⟨b', h1, h2⟩ := HNO2.out h
                      obtain rfl := Option.some.inj h1
                      exact q1 h2
                    have HRR := Lib.hid hr
                    clear hr q1
                    go_wp2_with fail
                    go_quiet (fail)
                    go_wp2_with fail
                    go_ret
                    exact ⟨_, rfl, by first | exact below_drewN (HBWT.out.trans (HB3.out.mono HBWT.out.size)) _ | exact (HBWT.out.trans (HB3.out.mono HBWT.out.size)).drew, IsB.no HRR.out⟩
                · obtain rfl : p = t.ts.length := by omega
                  rw [List.take_length] at HAL2
                  clear hB
                  go_wp2_with fail
                  go_roundw
                  case rel =>
                    refine ⟨q + 1, by omega, by go_num, HBT.out.trans (HB3.out.mono HBT.out.size), ?_⟩
                    rw [HTK.out]
                    intro y hy
                    rcases List.mem_append.1 hy with hy | hy
                    · exact HAL.out y hy
                    · rw [List.mem_singleton.1 hy]
                      exact HAL2.out
                  case measure => simp [intOf]; omega
            · obtain rfl : q = cs.length := by omega
              have hal := HAL.out
              rw [List.take_length] at hal
              have HRR := Lib.hid (HOK.out HON2.out hal)
              clear hal hB
              go_wp2_with fail
              go_ret
              exact ⟨_, rfl, HB2.out.trans (HB.out.mono HB2.out.size), IsB.yes HRR.out⟩
end Go.Proofs.YtelklmdlodgdpaaGreat
