/-
  tray.traysRight.
-/
import Derived.Test.YtelklmdlodgdpaaGreatTM
import Derived.Test.YtelklmdlodgdpaaGreatTE
namespace Go.Proofs.YtelklmdlodgdpaaGreat
open Go.RowKit Go.Sort
set_option linter.unusedVariables false
set_option maxRecDepth 100000
/-- Rows of numbers that came in, in a row of the call's own. -/
def OwnsRL (w wx : World) (base : Nat) (v : Value) (ts : List (List Int)) : Prop :=
  ∃ L : List (List Int × Value), L.map Prod.fst = ts ∧ (∀ p ∈ L, RdInts w p.2 p.1) ∧ wx.ownsRow base 30 1 v L.length (L.map Prod.snd)
theorem OwnsRL.rd {w wx : World} {base : Nat} {v : Value} {ts : List (List Int)} (h : OwnsRL w wx base v ts) (hb : Below w.heap.size w wx) : RdLL wx v ts := by
  obtain ⟨L, rfl, h1, h2⟩ := h
  rcases Joins.ownsRow_forms h2 with ⟨rfl, hp⟩ | ⟨g, cap, rfl⟩
  · exact ⟨none, 0, by rw [List.length_map, hp], fun h0 => by rw [List.length_map, hp] at h0; omega⟩
  · refine ⟨_, cap, by rw [List.length_map], fun h0 => ⟨g, 0, rfl, (h2.lt g rfl).2, fun i hi => ?_⟩⟩
    rw [List.length_map] at hi
    have hc := h2.cellAt i (by rw [Nat.mul_one]; exact hi)
    rw [List.getElem?_map, List.getElem?_eq_getElem hi] at hc
    refine ⟨_, by rw [Nat.zero_add]; exact hc, ?_⟩
    rw [List.getElem_map]
    exact (h1 _ (List.getElem_mem hi)).below hb
theorem OwnsRL.form {w wx : World} {base : Nat} {v : Value} {ts : List (List Int)} (h : OwnsRL w wx base v ts) : ∃ a cap, v = .slice a ts.length cap := by
  obtain ⟨L, rfl, _, h2⟩ := h
  rw [List.length_map]
  exact own_form h2
theorem OwnsRL.below {w wx wy : World} {base : Nat} {v : Value} {ts : List (List Int)} (h : OwnsRL w wx base v ts) (hb : Below wx.heap.size wx wy) : OwnsRL w wy base v ts := by
  obtain ⟨L, hL, h1, h2⟩ := h
  exact ⟨L, hL, h1, row_belowT h2 hb⟩
set_option maxHeartbeats 16000000 in
theorem traysRight_any (k : Pck) (l : Lod) (vb vt vc : Value) (w : World) (hr : RdLod w vb vt vc l) (hs : SmallL l) :
    Calls Tryz.prog 30 #[pckV k, lodV vb vt vc] w fun e w' => ∃ v, e = .returned v ∧ Below w.heap.size w w' ∧ IsB v (TrasOk k l) := by
  obtain ⟨i0, hi⟩ := info_parts Tryz.infoSlT
  have HI := Lib.hid hi
  obtain ⟨ab, cb, hvb, hcb⟩ := hr.b
  obtain ⟨at', ct, hvt, hct⟩ := hr.t
  obtain ⟨ac, cc, hvc, _⟩ := hr.c
  subst hvb hvt hvc
  have hnb := hs.b
  have hnt := hs.t
  have hti := hs.ti
  have hpl := fun x hx => part_le (f := fun t : Tra => t.bs) hs.ti x hx
  have HON := Lib.hid (fun W v (hb : RdLL W v (l.tras.map (fun t => t.bs))) => once_any (l.tras.map (fun t => t.bs)) l.buns.length k.bundles v W hb (by omega) (by rw [flat_bs]; omega) (by rw [List.length_map]; omega))
  have hOK := fun (h : OnceOk (l.tras.map (fun t => t.bs)) l.buns.length k.bundles) (h2 : ∀ t ∈ l.tras, ∀ i ∈ t.bs, ∃ b, l.buns[i.toNat]? = some b ∧ b.lvl = t.lvl ∧ b.grp = t.grp) => (⟨h, h2⟩ : TrasOk k l)
  have hNO := fun (h : TrasOk k l) => h
  unfold lodV pckV
  obtain ⟨kp, kg, kb, kt⟩ := k
  obtain ⟨bs, ts, cs⟩ := l
  dsimp only at *
  obtain ⟨w2, hw2⟩ : ∃ w2, w2 = (w.alloc (.cells #[.int .i64 kp, .int .i64 kg, .int .i64 kb, .int .i64 kt] 32)).alloc (.cells #[.slice ab bs.length cb, .slice at' ts.length ct, .slice ac cs.length cc] 39) := ⟨_, rfl⟩
  obtain ⟨g1, g2, z2, b2⟩ := boxes2 hw2
  obtain ⟨x0, x1, x2⟩ := cells3 g2
  have HW2 := Lib.hid hw2
  have HB2 := Lib.hid b2
  have HL := Lib.hid (fun (W : World) (hB : Below w2.heap.size w2 W) => And.intro (cells4 ((hB.block _ (by omega)).trans g1)) (cells3 ((hB.block _ (by omega)).trans g2)))
  have HCB := Lib.hid hcb
  have HCT := Lib.hid hct
  have HOK := Lib.hid hOK
  have HPL := Lib.hid hpl
  clear hw2 g1 g2 z2 b2 hcb hct hr hs hOK hNO hi hpl
  go_enter Tryz.func30, Tryz.ntmps30
  go_upto_region 1 with fail
  rw [← HW2.out]
  go_wp2_with (at_make; refine wpList_make_own _ rfl _ _ 83 rfl w2.heap.size 30 i0 (.slice none 0 0) 1 Tryz.underlying83 HI.out.1 HI.out.2.1 HI.out.2.2.1 _ _ _ ts.length rfl (by first | rfl | simp) rfl (by rw [HI.out.2.2.2]; omega) (by unfold maxLen; omega) (Nat.le_refl _) ?_; intro w3 hown hgrow; have hb3 : Below w2.heap.size w2 w3 := (Below.refl _ _).grown hgrow (Nat.le_refl _) (fun _ e => by cases e); have HB3 := Lib.hid hb3; have HO3 := Lib.hid hown; clear hgrow hown; obtain ⟨⟨u0, u1, u2, u3⟩, v0, v1, v2⟩ := HL.out w3 hb3)
  go_loopw [5, 19] (fun lv i wx => ∃ q : Nat, q ≤ ts.length ∧ i = .int .i64 q ∧ Below w2.heap.size w2 wx ∧ OwnsRL w wx w2.heap.size lv ((ts.take q).map (fun t => t.bs))) (fun _ i _ => ts.length - (intOf i).toNat)
  case atStart => exact ⟨0, Nat.zero_le _, rfl, HB3.out, ⟨[], by simp, by simp, HO3.out⟩⟩
  case round =>
    clear u0 u1 u2 u3 v0 v1 v2 hb3 x0 x1 x2
    obtain ⟨q, hq, rfl, hB, hO⟩ := hrel
    have HBB := Lib.hid hB
    by_cases hlt : q < ts.length
    · obtain ⟨g, off, rfl, hg, hcc⟩ := HCT.out (by omega)
      obtain ⟨s, hs, hcell⟩ := hcc q hlt
      have htk : (ts.take (q + 1)).map (fun t => t.bs) = (ts.take q).map (fun t => t.bs) ++ [ts[q].bs] := by rw [List.take_succ_eq_append_getElem hlt, List.map_append]; rfl
      obtain ⟨t, ht⟩ : ∃ t, t = ts[q] := ⟨_, rfl⟩
      rw [← ht] at hs hcell htk
      have hbw : Below w.heap.size w wr := HB2.out.trans (hB.mono HB2.out.size)
      have f0 : wr.cell? ⟨g, off + q * 3, none⟩ = some (.int .i64 t.lvl) := (hbw.cell (p := ⟨g, off + q * 3, none⟩) hg).trans (hcell 0 _ rfl)
      have f1 : wr.cell? ⟨g, off + q * 3 + 1, none⟩ = some (.string t.grp) := (hbw.cell (p := ⟨g, off + q * 3 + 1, none⟩) hg).trans (hcell 1 _ rfl)
      have f2 : wr.cell? ⟨g, off + q * 3 + 2, none⟩ = some s := (hbw.cell (p := ⟨g, off + q * 3 + 2, none⟩) hg).trans (hcell 2 _ rfl)
      have HS := Lib.hid hs
      obtain ⟨as1, cs', rfl, _⟩ := hs
      have HTK := Lib.hid htk
      obtain ⟨av, cv, hlv⟩ := hO.form
      have hle : ((ts.take q).map (fun t => t.bs)).length = q := by rw [List.length_map, List.length_take]; omega
      rw [hle] at hlv
      subst hlv
      obtain ⟨L, hL, hLr, hLo⟩ := hO
      have hLl : L.length = q := by rw [← hle, ← hL, List.length_map]
      subst hLl
      have HL0 := Lib.hid hL
      have HLR := Lib.hid hLr
      have hLo2 := (hLo.alloc (.cells #[.int .i64 t.lvl, .string t.grp, .slice as1 t.bs.length cs'] 49)).alloc (.cells #[.slice as1 t.bs.length cs'] 30)
      have HLO := Lib.hid hLo2
      have HLT := Lib.hid (fun r e => (hLo.lt r e).1)
      clear ht hcell hcc hbw htk hL hLr hLo hLo2 hle hB
      go_wp2_with (at_builtin; refine wpList_append_own _ rfl _ _ 83 rfl w2.heap.size 30 i0 (.slice none 0 0) 1 24 Tryz.underlying83 HI.out.1 HI.out.2.1 HI.out.2.2.1 HI.out.2.2.2 rfl (by decide) _ L.length _ rfl HLO.out ⟨wr.heap.size + 1, 0, none⟩ 1 1 [.slice as1 t.bs.length cs'] rfl (by simp) (by simpa using cell_one_new (wr.alloc (.cells #[.int .i64 t.lvl, .string t.grp, .slice as1 t.bs.length cs'] 49)) (.slice as1 t.bs.length cs') 30) (by simp [Value.oneCell']) (by unfold maxLen; omega) (by omega) (by have := HBB.out.size; simp; omega) ?_; intro v' w5 hown' hgrow _)
      go_roundw
      case rel =>
        refine ⟨L.length + 1, by omega, by go_num, ((HBB.out.alloc HBB.out.size _).alloc (by have := HBB.out.size; simp; omega) _).grown hgrow (by have := HBB.out.size; simp; omega) (fun r e => HLT.out r e), L ++ [(t.bs, .slice as1 t.bs.length cs')], ?_, ?_, ?_⟩
        · rw [HTK.out, List.map_append, HL0.out]; rfl
        · intro p hp
          rcases List.mem_append.1 hp with hp | hp
          · exact HLR.out p hp
          · rw [List.mem_singleton.1 hp]; exact HS.out
        · rw [List.length_append, List.map_append]
          exact hown'
      case measure => simp [intOf]; omega
    · obtain rfl : q = ts.length := by omega
      rw [List.take_length] at hO
      have hbw : Below w.heap.size w wr := HB2.out.trans (hB.mono HB2.out.size)
      have HR := Lib.hid (hO.rd hbw)
      obtain ⟨av, cv, hlv⟩ := hO.form
      rw [List.length_map] at hlv
      subst hlv
      have HBW := Lib.hid hbw
      obtain ⟨⟨u0, u1, u2, u3⟩, v0, v1, v2⟩ := HL.out wr hB
      clear hO hbw hB
      go_upto_region 7 with fail
      go_cut [36] from 29 to 36 (fun b wx => ∃ c : Bool, b = .bool (!c) ∧ (c = true ↔ OnceOk (ts.map (fun t => t.bs)) bs.length kb) ∧ Below wr.heap.size wr wx)
      case first =>
        go_wp2_with (go_at_call 61; refine (HON.out wr _ HR.out).mono ?_; rintro e w6 ⟨vv, rfl, hb6, r, rfl, hr⟩)
        go_meet
        exact ⟨r, rfl, hr, hb6⟩
      case rest =>
        clear u0 u1 u2 u3 v0 v1 v2
        obtain ⟨wp, hwp⟩ : ∃ x, x = wc := ⟨_, rfl⟩
        subst hwp
        obtain ⟨c, rfl, hc, hbc⟩ := hcut
        have HB6 := Lib.hid (HBB.out.trans (hbc.mono HBB.out.size))
        have HC := Lib.hid hc
        clear hbc hc
        cases c
        · have hr : ¬ TrasOk ⟨kp, kg, kb, kt⟩ ⟨bs, ts, cs⟩ := fun h => by have := HC.out.2 h.once; cases this
          have HRR := Lib.hid hr
          clear hr
          go_wp2_with fail
          go_ret
          exact ⟨_, rfl, HB2.out.trans (HB6.out.mono HB2.out.size), IsB.no HRR.out⟩
        · have hon := HC.out.1 rfl
          have hin := fun t (ht : t ∈ ts) i (hi : i ∈ t.bs) => hon.ins i (by rw [flat_bs]; exact List.mem_flatMap.2 ⟨t, ht, hi⟩)
          have HON2 := Lib.hid hon
          have HIN := Lib.hid hin
          obtain ⟨⟨u0, u1, u2, u3⟩, v0, v1, v2⟩ := HL.out wp HB6.out
          clear hon hin
          go_wp2_with fail
          go_loopw [40] (fun i wx => ∃ q : Nat, q ≤ ts.length ∧ i = .int .i64 q ∧ Below w2.heap.size w2 wx ∧ ∀ t ∈ ts.take q, ∀ i ∈ t.bs, ∃ b, bs[i.toNat]? = some b ∧ b.lvl = t.lvl ∧ b.grp = t.grp) (fun i _ => ts.length - (intOf i).toNat)
          case atStart => exact ⟨0, Nat.zero_le _, rfl, HB6.out, by simp⟩
          case round =>
            clear u0 u1 u2 u3 v0 v1 v2
            obtain ⟨wo, hwo⟩ : ∃ x, x = wr := ⟨_, rfl⟩
            subst hwo
            obtain ⟨q, hq, rfl, hB, hal⟩ := hrel
            have HB := Lib.hid hB
            have HAL := Lib.hid hal
            clear hal
            by_cases hlt : q < ts.length
            · obtain ⟨g, off, rfl, hg, hcc⟩ := HCT.out (by omega)
              obtain ⟨s, hs, hcell⟩ := hcc q hlt
              have hbw : Below w.heap.size w wo := HB2.out.trans (hB.mono HB2.out.size)
              have hmt := List.getElem_mem hlt
              have htk : ts.take (q + 1) = ts.take q ++ [ts[q]] := List.take_succ_eq_append_getElem hlt
              have hlen := HPL.out _ hmt
              have hin := HIN.out _ hmt
              have hno : TrasOk ⟨kp, kg, kb, kt⟩ ⟨bs, ts, cs⟩ → ∀ i ∈ ts[q].bs, ∃ b, bs[i.toNat]? = some b ∧ b.lvl = ts[q].lvl ∧ b.grp = ts[q].grp := fun h => h.grp _ hmt
              obtain ⟨t, ht⟩ : ∃ t, t = ts[q] := ⟨_, rfl⟩
              rw [← ht] at hs hcell htk hlen hin hno
              have f0 : wo.cell? ⟨g, off + q * 3, none⟩ = some (.int .i64 t.lvl) := (hbw.cell (p := ⟨g, off + q * 3, none⟩) hg).trans (hcell 0 _ rfl)
              have f1 : wo.cell? ⟨g, off + q * 3 + 1, none⟩ = some (.string t.grp) := (hbw.cell (p := ⟨g, off + q * 3 + 1, none⟩) hg).trans (hcell 1 _ rfl)
              have f2 : wo.cell? ⟨g, off + q * 3 + 2, none⟩ = some s := (hbw.cell (p := ⟨g, off + q * 3 + 2, none⟩) hg).trans (hcell 2 _ rfl)
              obtain ⟨as1, cs', rfl, hsc⟩ := hs
              obtain ⟨Wt, hWt⟩ : ∃ W, W = wo.alloc (.cells #[.int .i64 t.lvl, .string t.grp, .slice as1 t.bs.length cs'] 49) := ⟨_, rfl⟩
              have hn := alloc_new wo (.cells #[.int .i64 t.lvl, .string t.grp, .slice as1 t.bs.length cs'] 49)
              have hbt : Below wo.heap.size wo Wt := by rw [hWt]; exact (Below.refl _ _).alloc (Nat.le_refl _) _
              have hNl : wo.heap.size < Wt.heap.size := by rw [hWt, World.size_alloc]; exact Nat.lt_succ_self _
              rw [← hWt] at hn
              have HWT := Lib.hid hWt
              have HN := Lib.hid hn
              have HNL := Lib.hid hNl
              have HTK := Lib.hid htk
              have HIN2 := Lib.hid hin
              have HNO := Lib.hid hno
              have HSC := Lib.hid hsc
              have HBT := Lib.hid (HB.out.trans (hbt.mono HB.out.size))
              have HBWT := Lib.hid (hbw.trans (hbt.mono hbw.size))
              obtain ⟨n0, n1, n2⟩ := cells3 hn
              clear ht hcell hcc hWt hn hNl htk hin hno hsc hbw hbt hmt hB
              go_upto_region 12 with fail
              rw [← HWT.out]
              go_wp2_with fail
              go_loopw [47] (fun i wx => ∃ p : Nat, p ≤ t.bs.length ∧ i = .int .i64 p ∧ Below Wt.heap.size Wt wx ∧ ∀ i ∈ t.bs.take p, ∃ b, bs[i.toNat]? = some b ∧ b.lvl = t.lvl ∧ b.grp = t.grp) (fun i _ => t.bs.length - (intOf i).toNat)
              case atStart => exact ⟨0, Nat.zero_le _, rfl, Below.refl _ _, by simp⟩
              case round =>
                clear n0 n1 n2 f0 f1 f2
                obtain ⟨wi, hwi⟩ : ∃ x, x = wr := ⟨_, rfl⟩
                subst hwi
                obtain ⟨p, hp, rfl, hB, hal2⟩ := hrel
                have HB3 := Lib.hid hB
                have HAL2 := Lib.hid hal2
                clear hal2
                by_cases hlp : p < t.bs.length
                · obtain ⟨gs, os, rfl, hgs, hcs⟩ := HSC.out (by omega)
                  have hbw : Below w.heap.size w wi := HBWT.out.trans (hB.mono HBWT.out.size)
                  have e1 := (hbw.cell (p := ⟨gs, os + p, none⟩) hgs).trans (hcs p hlp)
                  obtain ⟨i0', i1'⟩ := HIN2.out _ (List.getElem_mem hlp)
                  have hno := fun h => HNO.out h _ (List.getElem_mem hlp)
                  have htk2 : t.bs.take (p + 1) = t.bs.take p ++ [t.bs[p]] := List.take_succ_eq_append_getElem hlp
                  obtain ⟨x, hx⟩ : ∃ x, x = t.bs[p] := ⟨_, rfl⟩
                  rw [← hx] at e1 i0' i1' hno htk2
                  obtain ⟨j, rfl⟩ : ∃ j : Nat, x = (j : Int) := ⟨x.toNat, by omega⟩
                  have hj : j < bs.length := by omega
                  rw [Int.toNat_natCast, List.getElem?_eq_getElem hj] at hno
                  obtain ⟨gb, ob, rfl, hgb, hcb⟩ := HCB.out (by omega)
                  obtain ⟨sb, _, hcell⟩ := hcb j hj
                  have hbj : bs[j]? = some bs[j] := List.getElem?_eq_getElem hj
                  obtain ⟨b, hbe⟩ : ∃ b, b = bs[j] := ⟨_, rfl⟩
                  rw [← hbe] at hcell hno hbj
                  have b0 : wi.cell? ⟨gb, ob + j * 4, none⟩ = some (.int .i64 b.lvl) := (hbw.cell (p := ⟨gb, ob + j * 4, none⟩) hgb).trans (hcell 0 _ rfl)
                  have b1 : wi.cell? ⟨gb, ob + j * 4 + 1, none⟩ = some (.string b.grp) := (hbw.cell (p := ⟨gb, ob + j * 4 + 1, none⟩) hgb).trans (hcell 1 _ rfl)
                  obtain ⟨⟨u0, u1, u2, u3⟩, v0, v1, v2⟩ := HL.out wi (HBT.out.trans (hB.mono HBT.out.size))
                  obtain ⟨n0, n1, n2⟩ := cells3 ((hB.block _ HNL.out).trans HN.out)
                  have HNO2 := Lib.hid hno
                  have HTK2 := Lib.hid htk2
                  have HBJ := Lib.hid hbj
                  clear hcell hcb hbe hno htk2 hbj hx hcs hbw hB i0' i1'
                  by_cases q1 : b.lvl = t.lvl
                  · have hbq : (b.lvl != t.lvl) = false := by simp [q1]
                    by_cases q2 : b.grp = t.grp
                    · have hbs : (b.grp.toList == t.grp.toList) = true := by rw [ba_eq]; exact decide_eq_true q2
                      have Q := Lib.hid (And.intro q1 q2)
                      clear q1 q2
                      go_wp2_with fail
                      go_quiet (fail)
                      go_wp2_with fail
                      go_roundw
                      case rel =>
                        refine ⟨p + 1, by omega, by go_num, (by first | exact below_drewN HB3.out _ | exact HB3.out.drew), ?_⟩
                        rw [HTK2.out]
                        intro y hy
                        rcases List.mem_append.1 hy with hy | hy
                        · exact HAL2.out y hy
                        · rw [List.mem_singleton.1 hy, Int.toNat_natCast]
                          exact ⟨b, HBJ.out, Q.out.1, Q.out.2⟩
                      case measure => simp [intOf]; omega
                    · have hbs : (b.grp.toList == t.grp.toList) = false := by rw [ba_eq]; exact decide_eq_false q2
                      have hr : ¬ TrasOk ⟨kp, kg, kb, kt⟩ ⟨bs, ts, cs⟩ := fun h => by
                        obtain ⟨b', h1, h2, h3⟩ := HNO2.out h
                        obtain rfl := Option.some.inj h1
                        exact q2 h3
                      have HRR := Lib.hid hr
                      clear hr q1 q2
                      go_wp2_with fail
                      go_quiet (fail)
                      go_wp2_with fail
                      go_ret
                      exact ⟨_, rfl, by first | exact below_drewN (HBWT.out.trans (HB3.out.mono HBWT.out.size)) _ | exact (HBWT.out.trans (HB3.out.mono HBWT.out.size)).drew, IsB.no HRR.out⟩
                  · have hbq : (b.lvl != t.lvl) = true := by simp [q1]
                    have hr : ¬ TrasOk ⟨kp, kg, kb, kt⟩ ⟨bs, ts, cs⟩ := fun h => by
                      obtain ⟨b', h1, h2, h3⟩ := HNO2.out h
                      obtain rfl := Option.some.inj h1
                      exact q1 h2
                    have HRR := Lib.hid hr
                    clear hr q1
                    go_wp2_with fail
                    go_quiet (fail)
                    go_wp2_with fail
                    go_ret
                    exact ⟨_, rfl, by first | exact below_drewN (HBWT.out.trans (HB3.out.mono HBWT.out.size)) _ | exact (HBWT.out.trans (HB3.out.mono HBWT.out.size)).drew, IsB.no HRR.out⟩
                · obtain rfl : p = t.bs.length := by omega
                  rw [List.take_length] at HAL2
                  clear hB
                  go_wp2_with fail
                  go_roundw
                  case rel =>
                    refine ⟨q + 1, by omega, by go_num, HBT.out.trans (HB3.out.mono HBT.out.size), ?_⟩
                    rw [HTK.out]
                    intro y hy
                    rcases List.mem_append.1 hy with hy | hy
                    · exact HAL.out y hy
                    · rw [List.mem_singleton.1 hy]
                      exact HAL2.out
                  case measure => simp [intOf]; omega
            · obtain rfl : q = ts.length := by omega
              have hal := HAL.out
              rw [List.take_length] at hal
              have HRR := Lib.hid (HOK.out HON2.out hal)
              clear hal hB
              go_wp2_with fail
              go_ret
              exact ⟨_, rfl, HB2.out.trans (HB.out.mono HB2.out.size), IsB.yes HRR.out⟩
end Go.Proofs.YtelklmdlodgdpaaGreat
