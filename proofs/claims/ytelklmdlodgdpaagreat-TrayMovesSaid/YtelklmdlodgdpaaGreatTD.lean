/-
  tray.bundlesOf.
-/
import Derived.Test.YtelklmdlodgdpaaGreatTC
import Derived.BigQuiet
namespace Go.Proofs.YtelklmdlodgdpaaGreat
open Go.RowKit Go.Sort
set_option linter.unusedVariables false
set_option maxRecDepth 100000
theorem pcAt_mem {ps : List Pce} {i : Int} (h : 0 ≤ i ∧ i.toNat < ps.length) : pcAt ps i = ps[i.toNat]'h.2 ∧ pcAt ps i ∈ ps := by
  have e : pcAt ps i = ps[i.toNat]'h.2 := by
    unfold pcAt
    rw [List.getD_eq_getElem?_getD, List.getElem?_eq_getElem h.2]; rfl
  exact ⟨e, by rw [e]; exact List.getElem_mem h.2⟩
theorem boxes3 {w w3 : World} {c1 c2 c3 : Array Value} {t1 t2 t3 : TypeId} (h : w3 = ((w.alloc (.cells c1 t1)).alloc (.cells c2 t2)).alloc (.cells c3 t3)) :
    w3.heap[w.heap.size]? = some (.cells c1 t1 (0, 0)) ∧ w3.heap[w.heap.size + 1]? = some (.cells c2 t2 (0, 0)) ∧ w3.heap[w.heap.size + 1 + 1]? = some (.cells c3 t3 (0, 0)) := by
  rw [h]
  obtain ⟨a, ha⟩ : ∃ a, a = w.alloc (.cells c1 t1) := ⟨_, rfl⟩
  obtain ⟨b, hb⟩ : ∃ b, b = a.alloc (.cells c2 t2) := ⟨_, rfl⟩
  have za : a.heap.size = w.heap.size + 1 := by rw [ha, World.size_alloc]
  have zb : b.heap.size = w.heap.size + 1 + 1 := by rw [hb, World.size_alloc, za]
  have na : a.heap[w.heap.size]? = some (.cells c1 t1 (0, 0)) := by rw [ha]; exact alloc_new w _
  have nb : b.heap[w.heap.size + 1]? = some (.cells c2 t2 (0, 0)) := by rw [hb, ← za]; exact alloc_new a _
  have nc : (b.alloc (.cells c3 t3)).heap[w.heap.size + 1 + 1]? = some (.cells c3 t3 (0, 0)) := by rw [← zb]; exact alloc_new b _
  rw [← ha, ← hb]
  have nb1 : b.heap[w.heap.size]? = some (.cells c1 t1 (0, 0)) := by rw [hb]; exact (Below.heap_alloc _ _ _ (by omega)).trans na
  exact ⟨(Below.heap_alloc _ _ _ (by omega)).trans nb1, (Below.heap_alloc _ _ _ (by omega)).trans nb, nc⟩
set_option maxHeartbeats 16000000 in
theorem bundlesOf_any (x : Grp) (sv vp vz : Value) (m : Mai) (zs : List Int) (k : Pck) (w : World) (hs : RdInts w sv x.items) (hp : RdPces w vp m.ps) (hz : RdInts w vz zs) (hzl : zs.length = m.ps.length) (hpl : m.ps.length ≤ 2000) (hil : x.items.length ≤ 2000)
    (hit : ∀ i ∈ x.items, 0 ≤ i ∧ i.toNat < m.ps.length) (hk : 1 ≤ k.pieces ∧ k.pieces ≤ 2000 ∧ 0 ≤ k.grams ∧ k.grams ≤ 1000000) (hg : ∀ p ∈ m.ps, 0 ≤ p.grams ∧ p.grams ≤ 50000 ∧ p.grams ≤ k.grams) :
    Calls Tryz.prog 24 #[.agg #[.int .i64 x.lvl, .string x.name, .int .i64 x.up, sv], maiV m vp, vz, pckV k] w fun e w' => ∃ v, e = .returned v ∧ Below w.heap.size w w' ∧ OwnsB w' w.heap.size v (bunsOf k m.ps zs x) := by
  obtain ⟨j0, hj⟩ := info_parts Tryz.infoB4
  have HJ := Lib.hid hj
  obtain ⟨ai, ci, rfl, hsc⟩ := hs
  obtain ⟨ap, cp, rfl, hpc⟩ := hp
  obtain ⟨az, cz, rfl, hzc⟩ := hz
  have hgi : ∀ i ∈ x.items, 0 ≤ (pcAt m.ps i).grams ∧ (pcAt m.ps i).grams ≤ k.grams := fun i hi => by
    have := hg _ (pcAt_mem (hit i hi)).2
    omega
  have HST := Lib.hid (fun q (hq : q ≤ x.items.length) => stq_ok (zs := zs) hk.1 hk.2.2.1 hgi hq)
  have HSL := Lib.hid (stq_len k m.ps zs x)
  have HSE := Lib.hid (stq_end k m.ps zs x)
  have HGI := Lib.hid hgi
  have HIT := Lib.hid hit
  have HG := Lib.hid hg
  have HSC := Lib.hid hsc
  have HPC := Lib.hid hpc
  have HZC := Lib.hid hzc
  obtain ⟨w3, hw3⟩ : ∃ w3, w3 = ((w.alloc (.cells #[.int .i64 x.lvl, .string x.name, .int .i64 x.up, .slice ai x.items.length ci] 81)).alloc (.cells #[.int .u8 m.cls, .int .u8 m.ctr, .string m.origin, .slice ap m.ps.length cp] 29)).alloc (.cells #[.int .i64 k.pieces, .int .i64 k.grams, .int .i64 k.bundles, .int .i64 k.trays] 32) := ⟨_, rfl⟩
  have hz3 : w3.heap.size = w.heap.size + 1 + 1 + 1 := by rw [hw3, World.size_alloc, World.size_alloc, World.size_alloc]
  have hb3 : Below w.heap.size w w3 := by
    rw [hw3]
    exact (((Below.refl _ w).alloc (Nat.le_refl _) _).alloc (by simp) _).alloc (by simp; omega) _
  obtain ⟨g3, m3, k3⟩ := boxes3 hw3
  have HW3 := Lib.hid hw3
  have HB3 := Lib.hid hb3
  have HZ3 := Lib.hid hz3
  have HFR := Lib.hid (fun (W : World) (hB : Below w3.heap.size w3 W) => fresh_any x.lvl x.name k w.heap.size (w.heap.size + 1 + 1) W
    (cell_of_row _ _ 0 _ _ _ ((hB.block _ (by omega)).trans g3)) (cell_of_row _ _ 1 _ _ _ ((hB.block _ (by omega)).trans g3))
    (cell_of_row _ _ 0 _ _ _ ((hB.block _ (by omega)).trans k3)) (cell_of_row _ _ 1 _ _ _ ((hB.block _ (by omega)).trans k3)) (cell_of_row _ _ 2 _ _ _ ((hB.block _ (by omega)).trans k3)) (cell_of_row _ _ 3 _ _ _ ((hB.block _ (by omega)).trans k3)))
  have HCE := Lib.hid (fun (W : World) (hB : Below w3.heap.size w3 W) =>
    (⟨cell_of_row _ _ 3 _ _ _ ((hB.block _ (by omega)).trans g3), cell_of_row _ _ 0 _ _ _ ((hB.block _ (by omega)).trans g3), cell_of_row _ _ 3 _ _ _ ((hB.block _ (by omega)).trans m3)⟩ : W.cell? ⟨w.heap.size, 3, none⟩ = some (.slice ai x.items.length ci) ∧ W.cell? ⟨w.heap.size, 0, none⟩ = some (.int .i64 x.lvl) ∧ W.cell? ⟨w.heap.size + 1, 3, none⟩ = some (.slice ap m.ps.length cp)))
  clear hj hsc hpc hzc hgi hit hg g3 m3 k3 hw3 hb3 hz3
  obtain ⟨d0, d1, d2⟩ := HCE.out w3 (Below.refl _ _)
  unfold maiV pckV
  go_enter Tryz.func24, Tryz.ntmps24
  go_upto_region 1 with fail
  rw [← HW3.out]
  go_wp2_with (go_at_call 55; refine (HFR.out _ (Below.refl _ _)).mono ?_; rintro e w4 ⟨rfl, hw4⟩; obtain ⟨e0, e1, e2⟩ := HCE.out w4 (by rw [hw4]; exact (Below.refl _ _).alloc (Nat.le_refl _) _); have HW4 := Lib.hid hw4; clear hw4)
  go_loopw [10, 11, 20] (fun bv lv n wx => ∃ (q F : Nat) (Wc : World) (u : Value), q ≤ x.items.length ∧ n = .int .i64 q ∧ lv = .pointer (some ⟨F, 0, none⟩) ∧ FilI w3 w3.heap.size k m.ps x (stq k m.ps zs x q) wx Wc bv F u) (fun _ _ n _ => x.items.length - (intOf n).toNat)
  case atStart => exact ⟨0, w3.heap.size, w3, .slice none 0 0, Nat.zero_le _, rfl, rfl, by rw [HW4.out]; exact FilI.fresh (Below.refl _ _) (OwnsB.nil _ _)⟩
  case round =>
    obtain ⟨q, F, Wc, u, hq, rfl, rfl, hI⟩ := hrel
    have hst := HST.out q hq
    have hsl := HSL.out q hq
    have hse := HSE.out
    obtain ⟨a, cap, rfl⟩ := own_form hI.row
    have HALL := Lib.hid hI.all
    obtain ⟨bn, cb, hbv⟩ := hI.own.form
    rw [List.length_map] at hbv
    subst hbv
    by_cases hlt : q < x.items.length
    · obtain ⟨gi, oi, rfl, hgi, hci⟩ := HSC.out (by omega)
      have hin := HIT.out _ (List.getElem_mem hlt)
      have hskip := stq_skip (k := k) (ps := m.ps) (zs := zs) hlt
      have htake := stq_take (k := k) (ps := m.ps) (zs := zs) hlt
      have c1 := hci q hlt
      obtain ⟨it, hit⟩ : ∃ it, it = x.items[q] := ⟨_, rfl⟩
      rw [← hit] at hin hskip htake c1
      obtain ⟨h0, h1⟩ := hin
      obtain ⟨p, rfl⟩ : ∃ p : Nat, it = (p : Int) := ⟨it.toNat, (Int.toNat_of_nonneg h0).symm⟩
      rw [Int.toNat_natCast] at h1 hskip htake
      have hpm := pcAt_mem (ps := m.ps) (i := (p : Int)) ⟨h0, by rw [Int.toNat_natCast]; exact h1⟩
      have hpg := HG.out _ hpm.2
      have hpe : pcAt m.ps (p : Int) = m.ps[p] := hpm.1
      obtain ⟨gz, oz, rfl, hgz, hcz⟩ := HZC.out (by omega)
      obtain ⟨gp, op, rfl, hgp, hcp⟩ := HPC.out (by omega)
      have c2 := hcz p (by omega)
      obtain ⟨q0, q1, q2, q3, q4⟩ := hcp p h1
      obtain ⟨z, hz⟩ : ∃ z, z = zs[p]'(by omega) := ⟨_, rfl⟩
      have hzd : zs.getD p (-1) = z := by rw [List.getD_eq_getElem?_getD, List.getElem?_eq_getElem (by omega), hz]; rfl
      rw [hzd] at hskip htake
      rw [← hz] at c2
      rw [hpe] at hpg
      obtain ⟨pc, hpc⟩ : ∃ pc, pc = m.ps[p] := ⟨_, rfl⟩
      rw [← hpc] at q0 q1 q2 q3 q4 hpg hpe
      have hbw : Below w.heap.size w wr := HB3.out.trans (HALL.out.mono HB3.out.size)
      have HPF := Lib.hid (fun (W : World) (hB : Below wr.heap.size wr W) =>
        (⟨(hB.cell (p := ⟨gp, op + p * 5, none⟩) (Nat.lt_of_lt_of_le hgp hbw.size)).trans ((hbw.cell (p := ⟨gp, op + p * 5, none⟩) hgp).trans q0), (hB.cell (p := ⟨gp, op + p * 5 + 1, none⟩) (Nat.lt_of_lt_of_le hgp hbw.size)).trans ((hbw.cell (p := ⟨gp, op + p * 5 + 1, none⟩) hgp).trans q1),
          (hB.cell (p := ⟨gp, op + p * 5 + 2, none⟩) (Nat.lt_of_lt_of_le hgp hbw.size)).trans ((hbw.cell (p := ⟨gp, op + p * 5 + 2, none⟩) hgp).trans q2), (hB.cell (p := ⟨gp, op + p * 5 + 3, none⟩) (Nat.lt_of_lt_of_le hgp hbw.size)).trans ((hbw.cell (p := ⟨gp, op + p * 5 + 3, none⟩) hgp).trans q3),
          (hB.cell (p := ⟨gp, op + p * 5 + 4, none⟩) (Nat.lt_of_lt_of_le hgp hbw.size)).trans ((hbw.cell (p := ⟨gp, op + p * 5 + 4, none⟩) hgp).trans q4)⟩ :
          W.cell? ⟨gp, op + p * 5, none⟩ = some (.int .i64 pc.id) ∧ W.cell? ⟨gp, op + p * 5 + 1, none⟩ = some (.int .i64 pc.point) ∧ W.cell? ⟨gp, op + p * 5 + 2, none⟩ = some (.string pc.code) ∧ W.cell? ⟨gp, op + p * 5 + 3, none⟩ = some (.int .i64 pc.grams) ∧ W.cell? ⟨gp, op + p * 5 + 4, none⟩ = some (.bool pc.barred)))
      have hg3 : gp < w3.heap.size := Nat.lt_of_lt_of_le hgp HB3.out.size
      have HPQ := Lib.hid (fun (W : World) (hB : Below w3.heap.size w3 W) =>
        (⟨(hB.cell (p := ⟨gp, op + p * 5, none⟩) hg3).trans ((HB3.out.cell (p := ⟨gp, op + p * 5, none⟩) hgp).trans q0), (hB.cell (p := ⟨gp, op + p * 5 + 1, none⟩) hg3).trans ((HB3.out.cell (p := ⟨gp, op + p * 5 + 1, none⟩) hgp).trans q1),
          (hB.cell (p := ⟨gp, op + p * 5 + 2, none⟩) hg3).trans ((HB3.out.cell (p := ⟨gp, op + p * 5 + 2, none⟩) hgp).trans q2), (hB.cell (p := ⟨gp, op + p * 5 + 3, none⟩) hg3).trans ((HB3.out.cell (p := ⟨gp, op + p * 5 + 3, none⟩) hgp).trans q3),
          (hB.cell (p := ⟨gp, op + p * 5 + 4, none⟩) hg3).trans ((HB3.out.cell (p := ⟨gp, op + p * 5 + 4, none⟩) hgp).trans q4)⟩ :
          W.cell? ⟨gp, op + p * 5, none⟩ = some (.int .i64 pc.id) ∧ W.cell? ⟨gp, op + p * 5 + 1, none⟩ = some (.int .i64 pc.point) ∧ W.cell? ⟨gp, op + p * 5 + 2, none⟩ = some (.string pc.code) ∧ W.cell? ⟨gp, op + p * 5 + 3, none⟩ = some (.int .i64 pc.grams) ∧ W.cell? ⟨gp, op + p * 5 + 4, none⟩ = some (.bool pc.barred)))
      replace c1 := (hbw.cell (p := ⟨gi, oi + q, none⟩) hgi).trans c1
      replace c2 := (hbw.cell (p := ⟨gz, oz + p, none⟩) hgz).trans c2
      obtain ⟨d0, d1, d2⟩ := HCE.out wr HALL.out
      obtain ⟨p0, p1, p2, p3, p4⟩ := HPF.out wr (Below.refl _ _)
      have HPE := Lib.hid hpe
      obtain ⟨st, hs⟩ : ∃ st, st = stq k m.ps zs x q := ⟨_, rfl⟩
      rw [← hs] at hI hst hsl hskip htake ⊢
      have HI := Lib.hid hI
      obtain ⟨lv, hlv⟩ : ∃ lv, lv = x.lvl := ⟨_, rfl⟩
      have HLV := Lib.hid hlv
      have HSK := Lib.hid hskip
      have HTA := Lib.hid htake
      have HSQ := Lib.hid hst
      have HSN := Lib.hid hsl
      rw [← hlv] at d1 ⊢
      clear hpe hskip htake hst hsl hse q0 q1 q2 q3 q4 hpm hit hzd hz hpc hci hcz hcp hI hlv hs
      by_cases hzl : z = lv
      · have hbq : (z == lv) = true := by simp [hzl]
        have hta := HTA.out (by rw [← HLV.out]; exact hzl)
        have HTT := Lib.hid hta
        clear hta hzl
        go_wp2_with fail
        go_quiet (fail)
        obtain ⟨wd, hwd⟩ : ∃ wd, wd = wr.drewN nq := ⟨_, rfl⟩
        rw [← hwd]
        have hbd : Below wr.heap.size wr wd := by rw [hwd]; exact below_drewN (Below.refl _ _) _
        have HID := Lib.hid (HI.out.below hbd)
        have HBD := Lib.hid hbd
        obtain ⟨e0, e1, e2⟩ := HCE.out wd (HALL.out.trans (hbd.mono HALL.out.size))
        obtain ⟨r0, r1, r2, r3, r4⟩ := HPF.out wd hbd
        have HTK := Lib.hid (takes_any (p := pc) HID.out.fil (by have := HSQ.out; omega) (by have := HSQ.out; omega) (by omega))
        clear hwd hbd p0 p1 p2 p3 p4 d0 d1 d2 c1 c2
        by_cases hf : fitsP k m.ps st.2 (p : Int)
        · have hcs : stq k m.ps zs x (q + 1) = (st.1, st.2 ++ [(p : Int)]) := by rw [HTT.out]; unfold cutStep; rw [if_pos hf]
          have HCS := Lib.hid hcs
          unfold fitsP at hf
          rw [HPE.out] at hf
          have hd : (decide (((st.2.length : Nat) : Int) < k.pieces) && decide (gramsOf m.ps st.2 + pc.grams ≤ k.grams)) = true := by simp [hf.1, hf.2]
          rw [hd] at HTK
          clear hcs hd hf
          go_wp2_with (first | (go_at_call 56; refine HTK.out.mono ?_; rintro e w5 ⟨rfl, hb5⟩; have HB5 := Lib.hid hb5; have HI5 := Lib.hid (HID.out.below hb5); obtain ⟨f0, f1, f2⟩ := HCE.out w5 HI5.out.all; obtain ⟨s0, s1, s2, s3, s4⟩ := HPF.out w5 (HBD.out.trans (hb5.mono HBD.out.size)); clear hb5) | (go_at_call 57; refine (put_any (p := pc) HI5.out.fil HI5.out.row HI5.out.hF HI5.out.b2.size (by have := HSQ.out; omega) (by have := HSQ.out; omega) (by omega)).mono ?_; rintro e w6 ⟨⟨r, rfl⟩, hb6, u6, hf6, hr6⟩; have HI6 := Lib.hid (HI5.out.put (i := (p : Int)) (g' := gramsOf m.ps st.2 + pc.grams) (by rw [HPE.out]) hb6 hf6 (by rw [HPE.out]; exact hr6)); clear hb6 hf6 hr6))
          go_roundw
          case rel => exact ⟨q + 1, F, Wc, u6, by omega, by go_num, rfl, by rw [HCS.out]; exact HI6.out⟩
          case measure => simp [intOf]; omega
        · have hcs : stq k m.ps zs x (q + 1) = (st.1 ++ [st.2], [(p : Int)]) := by rw [HTT.out]; unfold cutStep; rw [if_neg hf]
          have HCS := Lib.hid hcs
          unfold fitsP at hf
          rw [HPE.out] at hf
          have hd : (decide (((st.2.length : Nat) : Int) < k.pieces) && decide (gramsOf m.ps st.2 + pc.grams ≤ k.grams)) = false := by rw [← Bool.decide_and]; exact decide_eq_false hf
          rw [hd] at HTK
          obtain ⟨L, hL, hLr, hLo⟩ := HID.out.own
          have hll : L.length ≤ 2000 := by
            have := congrArg List.length hL
            rw [List.length_map, List.length_map] at this
            have := HSN.out
            omega
          have HL := Lib.hid hL
          have HLR := Lib.hid hLr
          have HLO := Lib.hid hLo
          clear hcs hd hf hL hLr hLo
          go_wp2_with (first | (go_at_call 56; refine HTK.out.mono ?_; rintro e w5 ⟨rfl, hb5⟩; have HI5 := Lib.hid (HID.out.below hb5); have hfil := HI5.out.fil; unfold filC at hfil; obtain ⟨f0, f1, f2, f3, _⟩ := cells8 hfil; clear hfil hb5) | (at_builtin; refine wpList_append_own _ rfl _ _ 35 rfl w3.heap.size 47 j0 (.agg #[.int .i64 0, .string ⟨#[]⟩, .slice none 0 0, .int .i64 0]) 4 56 Tryz.underlying35 HJ.out.1 HJ.out.2.1 HJ.out.2.2.1 HJ.out.2.2.2 rfl (by decide) _ L.length _ rfl ((row_belowT HLO.out HI5.out.b2).alloc _) ⟨w5.heap.size, 0, none⟩ 1 1 [.int .i64 x.lvl, .string x.name, .slice a st.2.length cap, .int .i64 (gramsOf m.ps st.2)] rfl rfl (cells_new _ _ _) (by simp [Value.oneCell']) (by unfold maxLen; omega) (by omega) (by have := HI5.out.all.size; simp; omega) ?_; intro v' w6 hown' hgrow _; have HB6 := Lib.hid ((HI5.out.all.alloc HI5.out.all.size _).grown hgrow (by have := HI5.out.all.size; simp; omega) (fun r e => (HLO.out.lt r e).1)); have HO6 := Lib.hid (HI5.out.done HID.out.b1.size L HL.out HLR.out HLO.out hgrow hown'); clear hown' hgrow) | (go_at_call 55; refine (HFR.out _ HB6.out).mono ?_; rintro e w7 ⟨rfl, hw7⟩; have hI7 := FilI.fresh (x := x) (k := k) (ps := m.ps) HB6.out HO6.out; rw [← hw7] at hI7; have HI7 := Lib.hid hI7; obtain ⟨t0, t1, t2⟩ := HCE.out w7 HI7.out.all; obtain ⟨s0, s1, s2, s3, s4⟩ := HPQ.out w7 HI7.out.all; clear hw7 hI7) | (go_at_call 57; refine (put_any (p := pc) HI7.out.fil HI7.out.row HI7.out.hF HI7.out.b2.size (by simp) (by show 0 ≤ (0 : Int) ∧ (0 : Int) ≤ 100000000; decide) (by omega)).mono ?_; rintro e w8 ⟨⟨r, rfl⟩, hb8, u8, hf8, hr8⟩; have HI8 := Lib.hid (HI7.out.put (i := (p : Int)) (g' := gramsOf m.ps [] + pc.grams) (by rw [HPE.out]) hb8 hf8 (by rw [HPE.out]; exact hr8)); clear hb8 hf8 hr8))
          go_roundw
          case rel => exact ⟨q + 1, w6.heap.size, w6, u8, by omega, by go_num, rfl, by rw [HCS.out]; exact HI8.out⟩
          case measure => simp [intOf]; omega
      · have hbq : (z == lv) = false := by simp [hzl]
        have hsk := HSK.out (by rw [← HLV.out]; exact hzl)
        have HSKK := Lib.hid hsk
        clear hsk hzl
        go_wp2_with fail
        go_quiet (fail)
        go_wp2_with fail
        go_roundw
        case rel => exact ⟨q + 1, F, Wc, _, by omega, by go_num, rfl, by rw [HSKK.out]; exact HI.out.below (by first | exact below_drewN (Below.refl _ _) _ | exact (Below.refl _ _).drew)⟩
        case measure => simp [intOf]; omega
    · obtain rfl : q = x.items.length := by omega
      rw [hse] at hI hst hsl ⊢
      obtain ⟨st, hs⟩ : ∃ st, st = cutTo k m.ps (takesOf zs x) := ⟨_, rfl⟩
      have hcu : cuts k m.ps (takesOf zs x) = if 0 < st.2.length then st.1 ++ [st.2] else st.1 := by rw [hs]; rfl
      rw [← hs] at hI hst hsl ⊢
      have HCU := Lib.hid hcu
      have HI := Lib.hid hI
      have hfil := hI.fil
      unfold filC at hfil
      obtain ⟨f0, f1, f2, f3, _⟩ := cells8 hfil
      clear hs hcu hse hfil
      by_cases h0 : 0 < st.2.length
      · have hcu := HCU.out
        rw [if_pos h0] at hcu
        have HCU2 := Lib.hid hcu
        obtain ⟨L, hL, hLr, hLo⟩ := hI.own
        have hll : L.length ≤ 2000 := by
          have := congrArg List.length hL
          rw [List.length_map, List.length_map] at this
          omega
        have HL := Lib.hid hL
        have HLR := Lib.hid hLr
        have HLO := Lib.hid hLo
        clear hcu hL hLr hLo hI
        go_wp2_with (at_builtin; refine wpList_append_own _ rfl _ _ 35 rfl w3.heap.size 47 j0 (.agg #[.int .i64 0, .string ⟨#[]⟩, .slice none 0 0, .int .i64 0]) 4 56 Tryz.underlying35 HJ.out.1 HJ.out.2.1 HJ.out.2.2.1 HJ.out.2.2.2 rfl (by decide) _ L.length _ rfl ((row_belowT HLO.out HI.out.b2).alloc _) ⟨wr.heap.size, 0, none⟩ 1 1 [.int .i64 x.lvl, .string x.name, .slice a st.2.length cap, .int .i64 (gramsOf m.ps st.2)] rfl rfl (cells_new _ _ _) (by simp [Value.oneCell']) (by unfold maxLen; omega) (by omega) (by have := HI.out.all.size; simp; omega) ?_; intro v' w6 hown' hgrow _; have HB6 := Lib.hid ((HI.out.all.alloc HI.out.all.size _).grown hgrow (by have := HI.out.all.size; simp; omega) (fun r e => (HLO.out.lt r e).1)); have HO6 := Lib.hid (HI.out.done HI.out.b1.size L HL.out HLR.out HLO.out hgrow hown'); clear hown' hgrow)
        go_ret
        refine ⟨_, rfl, HB3.out.trans (HB6.out.mono HB3.out.size), ?_⟩
        unfold bunsOf
        rw [HCU2.out]
        exact HO6.out.mono HB3.out.size
      · have hcu := HCU.out
        rw [if_neg h0] at hcu
        have HCU2 := Lib.hid hcu
        clear hcu hI
        go_wp2_with fail
        go_ret
        refine ⟨_, rfl, HB3.out.trans (HI.out.all.mono HB3.out.size), ?_⟩
        unfold bunsOf
        rw [HCU2.out]
        exact (HI.out.own.below HI.out.b2).mono HB3.out.size
end Go.Proofs.YtelklmdlodgdpaaGreat
