/-
  TrayFull: the walk.
-/
import Derived.Test.YtelklmdlodgdpaaGreatT17
import Derived.BigQuiet
import Derived.BigRegion
import Derived.Deep.DeepCutAuto
namespace Go.Proofs.YtelklmdlodgdpaaGreat
open Go.RowKit Go.Sort
set_option linter.unusedVariables false
set_option maxRecDepth 100000
set_option maxHeartbeats 16000000 in
theorem full_walk (n b : Int) (vl vc vs : Value) {ls : List Lev} {l : List UInt16} {zs : List Int} {k : Pck} {L : Lod} {ns : List ByteArray} (w : World) (hM : MadeB #[.int .u32 n, vl, vc, vs, .int .i64 300, .int .u32 b] ls l zs k w) (hP : PackB ls l zs k L) (hzl : zs.length = l.length) (h : Pkd k (mail24 l).ps zs ns L) (hl : l.length ≤ 300)
    (hm : mailB (mail24 l) = true) (hkk : pckB k = true) :
    Calls Tryz.prog 3 #[.int .u32 n, vl, vc, vs, .int .u32 b] w fun e w' => e = .returned (.bool true) ∧ Below w.heap.size w w' := by
  obtain ⟨hidg, hu⟩ := mail_ids hm
  have hkb : (1 ≤ k.pieces ∧ k.pieces ≤ 2000 ∧ 1 ≤ k.grams ∧ k.grams ≤ 1000000) ∧ (1 ≤ k.bundles ∧ k.bundles ≤ 200 ∧ 1 ≤ k.trays ∧ k.trays ≤ 200) := by
    unfold pckB at hkk
    rw [Bool.and_eq_true, decide_eq_true_eq, decide_eq_true_eq] at hkk
    exact hkk
  have hgb : ∀ b ∈ L.buns, b.grams ≤ k.grams := fun b hb => by obtain ⟨_, _, _, _, _, _, h6⟩ := h.ok.buns.good b hb; exact h6
  have hgb0 : ∀ b ∈ L.buns, 0 ≤ b.grams := fun b hb => by
    obtain ⟨I, hI, _, h3, _⟩ := h.ok.buns.good b hb
    rw [← h3]
    exact grams_posN (fun p hp => by have := hidg p hp; omega) I (fun i hi => (hI i hi).2.1)
  have HAW := Lib.hid (fun W => awake26_any W)
  have HMD : Hid (MadeB #[.int .u32 n, vl, vc, vs, .int .i64 300, .int .u32 b] ls l zs k w) := hM
  have HPK : Hid (PackB ls l zs k L) := hP
  have hpn : (mail24 l).ps.length = l.length := ps24_len _ _
  have hlen := h.lens
  rw [hpn] at hlen
  obtain ⟨hlb, hlt, hlc⟩ := hlen
  have HIL : Hid (∀ q (hq : q < L.buns.length), L.buns[q].ids.length ≤ 300) := fun q hq => Nat.le_trans (part_le (f := fun b : Bun => b.ids) (n := l.length) (by rw [h.idn, hpn]; exact Nat.le_refl _) _ (List.getElem_mem hq)) hl
  have HH := Lib.hid h
  have HZL := Lib.hid hzl
  obtain ⟨kp, kg, kb, kt⟩ := k
  obtain ⟨nl, hnl⟩ : ∃ z, z = ls.length := ⟨_, rfl⟩
  unfold MadeB at HMD
  unfold PackB at HPK
  rw [← hnl] at HMD
  dsimp only at HMD HPK
  dsimp only at hkb hgb
  have HPCS : ∀ j : Nat, j < l.length → ∃ p, p = pcAt (mail24 l).ps (j : Int) ∧ 0 < p.id ∧ p.id ≤ 999999 ∧ 1 ≤ p.grams ∧ p.grams ≤ 50000 := fun j hj => ⟨_, rfl, hidg _ (pcAt_memN (by rw [Int.toNat_natCast, hpn]; exact hj))⟩
  have HPC := Lib.hid HPCS
  have HU := Lib.hid hu
  have HGB := Lib.hid hgb
  have HG0 := Lib.hid hgb0
  have HPN := Lib.hid hpn
  clear hM hP hzl h hpn hnl hidg hu hgb hgb0 HPCS hm hkk
  go_enter Tryz.func3, Tryz.ntmps3
  go_wp2_with (first
    | (go_at_call 9; refine (HAW.out _).mono ?_; rintro e w1 ⟨rfl, hb1⟩)
    | (go_at_call 10; refine (HMD.out _ hb1).mono ?_; rintro e w2 ⟨al, cl, ap, cp, gz, rfl, hb2, hl2, hp2, hz2, hgz⟩; have hB2 : Below w.heap.size w w2 := hb1.trans (hb2.mono hb1.size)))
  obtain ⟨w3, hw3⟩ : ∃ w3, w3 = (w2.alloc (.cells #[.int .u8 1, .int .u8 1, .string ⟨#[49, 48, 48, 50, 51]⟩, .slice ap l.length cp] 29)).alloc (.cells #[.int .i64 kp, .int .i64 kg, .int .i64 kb, .int .i64 kt] 32) := ⟨_, rfl⟩
  rw [← hw3]
  obtain ⟨x1, x2, x3, hb23⟩ := boxes2 hw3
  refine (HPK.out w3 _ _ _ (hl2.reads.below hb23) ((RdPces.of_owns hp2).below hb23) ((rd_plan hz2 HZL.out).below hb23)).mono ?_
  rintro e w4 ⟨ab, cb, at', ct, ac, cc, rfl, hb4, hr4⟩
  have hB4 : Below w.heap.size w w4 := (hB2.trans (hb23.mono hB2.size)).trans (hb4.mono (Nat.le_trans hB2.size hb23.size))
  have hp5 := (RdPces.of_owns hp2).below (hb23.trans (hb4.mono hb23.size))
  have hx1 := (hb4.block _ (by omega)).trans x1
  have hx2 := (hb4.block _ (by omega)).trans x2
  have hs4 := hb4.size
  rw [x3] at hs4
  clear hw3 x1 x2 x3 hb23 hb4 hb1 hb2 hl2 hp2 hz2 hgz hB2 HMD HPK HAW
  go_upto_region 7 with fail
  obtain ⟨w5, hw5⟩ : ∃ w5, w5 = w4.alloc (.cells #[.slice ab L.buns.length cb, .slice at' L.tras.length ct, .slice ac L.cons.length cc] 39) := ⟨_, rfl⟩
  rw [← hw5]
  have hb45 : Below w4.heap.size w4 w5 := by rw [hw5]; exact (Below.refl _ _).alloc (Nat.le_refl _) _
  have hz5 : w5.heap.size = w4.heap.size + 1 := by rw [hw5, World.size_alloc]
  have h5 : w5.heap[w4.heap.size]? = some (.cells #[.slice ab L.buns.length cb, .slice at' L.tras.length ct, .slice ac L.cons.length cc] 39 (0, 0)) := by rw [hw5]; exact alloc_new w4 _
  obtain ⟨T, hT⟩ : ∃ T, T = w4.heap.size := ⟨_, rfl⟩
  obtain ⟨M, hM⟩ : ∃ M, M = w2.heap.size := ⟨_, rfl⟩
  rw [← hT] at h5 hz5 ⊢
  rw [← hM] at hx1 hx2 hs4 ⊢
  have HB5 : Hid (Below w.heap.size w w5) := hB4.trans (hb45.mono hB4.size)
  have HR : Hid (RdLod w5 (.slice ab L.buns.length cb) (.slice at' L.tras.length ct) (.slice ac L.cons.length cc) L) := hr4.below hb45
  have HP5 : Hid (RdPces w5 (.slice ap l.length cp) (mail24 l).ps) := hp5.below hb45
  have HTC : Hid (∀ W, Below w5.heap.size w5 W → (W.cell? ⟨T, 0, none⟩ = some (.slice ab L.buns.length cb) ∧ W.cell? ⟨T, 1, none⟩ = some (.slice at' L.tras.length ct) ∧ W.cell? ⟨T, 2, none⟩ = some (.slice ac L.cons.length cc)) ∧ (W.cell? ⟨M, 3, none⟩ = some (.slice ap l.length cp)) ∧ (W.cell? ⟨M + 1, 0, none⟩ = some (.int .i64 kp) ∧ W.cell? ⟨M + 1, 1, none⟩ = some (.int .i64 kg) ∧ W.cell? ⟨M + 1, 2, none⟩ = some (.int .i64 kb) ∧ W.cell? ⟨M + 1, 3, none⟩ = some (.int .i64 kt)) ∧ T < W.heap.size ∧ M + 1 < W.heap.size) := fun W hW => by
    have hwz := hW.size
    refine ⟨cells3 ((hW.block _ (by omega)).trans h5), (cells4 (((hW.block _ (by omega)).trans (hb45.block _ (by omega))).trans hx1)).2.2.2, cells4 (((hW.block _ (by omega)).trans (hb45.block _ (by omega))).trans hx2), by omega, by omega⟩
  have hTl : T < w5.heap.size := by omega
  clear hw5 hT hM h5 hz5 hb45 hB4 hr4 hp5 hx1 hx2 hs4
  have hmm := run_makeMap0
  go_upto_region 8 with fail
  obtain ⟨w6, hw6⟩ : ∃ w6, w6 = w5.alloc (.map #[] 0) := ⟨_, rfl⟩
  rw [← hw6]
  have hb6 : Below w5.heap.size w5 w6 := by rw [hw6]; exact (Below.refl _ _).alloc (Nat.le_refl _) _
  have hI6 : OwnsII w6 w5.heap.size 0 (gmTo (mail24 l).ps 0) 0 := by rw [hw6]; exact OwnsII.made w5
  obtain ⟨_, t3, _⟩ := HTC.out w6 hb6
  have HB6 := Lib.hid hb6
  have HI6 := Lib.hid hI6
  obtain ⟨B, hBB⟩ : ∃ B, B = w5.heap.size := ⟨_, rfl⟩
  rw [← hBB] at HI6 ⊢
  have HBB := Lib.hid hBB
  clear hmm hw6 hb6 hI6 hBB
  go_wp2_with fail
  clear t3
  go_loopw [56] (fun i wr => ∃ j : Nat, j ≤ l.length ∧ i = .int .i64 j ∧ Below w5.heap.size w5 wr ∧ OwnsII wr B j (gmTo (mail24 l).ps j) j) (fun i _ => l.length - (intOf i).toNat)
  case atStart => exact ⟨0, Nat.zero_le _, rfl, HB6.out, HI6.out⟩
  case round =>
    obtain ⟨j, hj, rfl, hB, hI⟩ := hrel
    have HB := Lib.hid hB
    by_cases hlt2 : j < l.length
    · obtain ⟨g, off, rfl, hg, hat⟩ := HP5.out.atN (by rw [HPN.out]; omega)
      have hp := (hat j (by rw [HPN.out]; exact hlt2)).below hB hg
      obtain ⟨p, hpp, hp1, hp2, hp3, hp4⟩ := HPC.out j hlt2
      rw [← hpp] at hp
      have hsucc : gmTo (mail24 l).ps (j + 1) = fun u => if u = p.id then some p.grams else gmTo (mail24 l).ps j u := by rw [hpp]; rfl
      have hnone : gmTo (mail24 l).ps j p.id = none := by rw [hpp]; exact gm_none HU.out (by rw [HPN.out]; exact hlt2) j (Nat.le_refl _)
      obtain ⟨id, pt, cd, gr, br⟩ := p
      obtain ⟨p0, p1, p2, p3, p4⟩ := hp
      dsimp only at p0 p1 p2 p3 p4 hp1 hp2 hp3 hp4 hsucc hnone
      have HI := Lib.hid (hI.below ((Below.refl wr.heap.size wr).alloc (Nat.le_refl _) (.cells #[.int .i64 id, .int .i64 pt, .string cd, .int .i64 gr, .bool br] 45)))
      have HSU2 := Lib.hid hsucc
      have HNN := Lib.hid hnone
      clear hpp hat hB hI hsucc hnone
      go_wp2_with (refine wpList_update_II _ rfl _ _ _ _ rfl Tryz.underlying43 B j j (gmTo (mail24 l).ps j) rfl HI.out (by unfold maxLen; omega) id gr (WalkArith.wf_i64 (by omega)) (WalkArith.wf_i64 (by omega)) HNN.out rfl rfl ?_; intro w9 hown9 hg9)
      go_roundw
      case rel =>
        refine ⟨j + 1, by omega, by go_num, (HB.out.alloc HB.out.size _).grown hg9 (by have := HB.out.size; simp; omega) (fun r e => by rw [← Option.some.inj e, HBB.out]; exact Nat.le_refl _), ?_⟩
        rw [HSU2.out]
        exact hown9
      case measure => simp [intOf]; omega
    · obtain rfl : j = l.length := by omega
      have HI7 := Lib.hid hI
      obtain ⟨w7, hw7⟩ : ∃ w7, w7 = wr := ⟨_, rfl⟩
      subst hw7
      have hB7 := hB
      clear hB hI HB HI6 HB6 hlt2 hj
      go_upto_region 13 with fail
      have HB77 := Lib.hid (Below.refl w7.heap.size w7)
      go_wp2_with fail
      go_loopw [20] (fun i wr => ∃ j : Nat, 1 ≤ j ∧ (j ≤ L.buns.length ∨ j = 1) ∧ i = .int .i64 j ∧ Below w7.heap.size w7 wr) (fun i _ => L.buns.length - (intOf i).toNat)
      case atStart => exact ⟨1, Nat.le_refl _, .inr rfl, rfl, HB77.out⟩
      case round =>
        obtain ⟨j, hj1, hj2, rfl, hB⟩ := hrel
        obtain ⟨wo, hwo⟩ : ∃ x, x = wr := ⟨_, rfl⟩
        subst hwo
        have hB5 := hB7.trans (hB.mono hB7.size)
        obtain ⟨⟨t0, t1, t2⟩, _⟩ := HTC.out wo hB5
        by_cases hlt2 : j < L.buns.length
        · obtain ⟨q, rfl⟩ : ∃ q, j = q + 1 := ⟨j - 1, by omega⟩
          have hq : q < L.buns.length := by omega
          obtain ⟨g, off, rfl, hg, hcg⟩ := HR.out.b.at (by omega)
          obtain ⟨as_, ac_, hra, hca⟩ := hcg q hq
          obtain ⟨bs_, bc_, hrb, hcb⟩ := hcg (q + 1) hlt2
          have a0 := (hB5.cell (p := ⟨g, off + q * 4 + 0, none⟩) hg).trans (hca 0 _ rfl)
          have b0 := (hB5.cell (p := ⟨g, off + (q + 1) * 4 + 0, none⟩) hg).trans (hcb 0 _ rfl)
          have a1 := (hB5.cell (p := ⟨g, off + q * 4 + 1, none⟩) hg).trans (hca 1 _ rfl)
          have b1 := (hB5.cell (p := ⟨g, off + (q + 1) * 4 + 1, none⟩) hg).trans (hcb 1 _ rfl)
          have a2 := (hB5.cell (p := ⟨g, off + q * 4 + 2, none⟩) hg).trans (hca 2 _ rfl)
          have b2 := (hB5.cell (p := ⟨g, off + (q + 1) * 4 + 2, none⟩) hg).trans (hcb 2 _ rfl)
          have a3 := (hB5.cell (p := ⟨g, off + q * 4 + 3, none⟩) hg).trans (hca 3 _ rfl)
          have b3 := (hB5.cell (p := ⟨g, off + (q + 1) * 4 + 3, none⟩) hg).trans (hcb 3 _ rfl)
          have hgo : g < wo.heap.size := by have := hB5.size; omega
          have hTo := (HTC.out wo hB5).2.2.2.1
          have hq3 : q < 300 := by omega
          rw [Nat.add_zero] at a0 b0
          have HF := Lib.hid (HH.out.bf _ _ (nextIn_at hlt2))
          have ha1 := HGB.out _ (List.getElem_mem hq)
          have ha2 := HG0.out _ (List.getElem_mem hq)
          have hbo := HH.out.own _ (List.getElem_mem hlt2)
          obtain ⟨an, han⟩ : ∃ z, z = L.buns[q] := ⟨_, rfl⟩
          obtain ⟨bn, hbn⟩ : ∃ z, z = L.buns[q + 1] := ⟨_, rfl⟩
          rw [← han] at a0 a1 a2 a3 hra ha1 ha2 HF
          rw [← hbn] at b0 b1 b2 b3 hrb hbo HF
          obtain ⟨alv, agr, aids, agm⟩ := an
          obtain ⟨blv, bgr, bids, bgm⟩ := bn
          dsimp only at a0 a1 a2 a3 b0 b1 b2 b3 hra hrb ha1 ha2 hbo HF
          have HRA := Lib.hid hra
          have HRB := Lib.hid hrb
          clear hca hcb hcg han hbn hra hrb
          go_upto_region 16 with fail
          go_cut [21, 22] from 73 to 83 (fun p r wx => ∃ A C, p = .pointer (some ⟨A, 0, none⟩) ∧ r = .pointer (some ⟨C, 0, none⟩) ∧ Below wo.heap.size wo wx ∧ wx.heap[A]? = some (.cells #[.int .i64 alv, .string agr, .slice as_ aids.length ac_, .int .i64 agm] 47 (0, 0)) ∧ wx.heap[C]? = some (.cells #[.int .i64 blv, .string bgr, .slice bs_ bids.length bc_, .int .i64 bgm] 47 (0, 0)))
          case first =>
            go_region
            all_goals
              go_wp2_with fail
              go_meet
              first
                | exact ⟨_, _, rfl, rfl, (boxes2 rfl).2.2.2, (boxes2 rfl).1, (boxes2 rfl).2.1⟩
                | exact ⟨_, _, rfl, rfl, (boxes2 rfl).2.2.2, (boxes2 rfl).2.1, (boxes2 rfl).1⟩
                | exact ⟨_, _, rfl, rfl, (boxes2 rfl).2.2.2.drew, (boxes2 rfl).1, (boxes2 rfl).2.1⟩
                | exact ⟨_, _, rfl, rfl, (boxes2 rfl).2.2.2.drew, (boxes2 rfl).2.1, (boxes2 rfl).1⟩
          case rest =>
            obtain ⟨A, C, rfl, rfl, hbx, hA, hC⟩ := hcut
            obtain ⟨wd, hwd⟩ : ∃ x, x = wc := ⟨_, rfl⟩
            subst hwd
            have hBd := hB.trans (hbx.mono hB.size)
            have hB5d := hB5.trans (hbx.mono hB5.size)
            have HBD := Lib.hid hBd
            obtain ⟨a0, a1, a2, a3⟩ := cells4 hA
            obtain ⟨b0, b1, b2, b3⟩ := cells4 hC
            obtain ⟨_, _, ⟨y0, y1, y2, y3⟩, _⟩ := HTC.out wd hB5d
            clear hgo hTo hB hbx hA hC hB5
            by_cases h1 : alv = blv
            · subst h1
              by_cases h2 : agr = bgr
              · subst h2
                have hs1 : (agr.toList == agr.toList) = true := by simp
                by_cases h3 : (aids.length : Int) < kp
                · have hd3 : decide ((aids.length : Int) < kp) = true := decide_eq_true h3
                  obtain ⟨i, hi0, hi1, hhead, hno⟩ := HF.out (by first | trivial | rfl) (by first | trivial | rfl)
                  obtain ⟨iN, rfl⟩ : ∃ iN : Nat, i = (iN : Int) := ⟨i.toNat, (Int.toNat_of_nonneg hi0).symm⟩
                  rw [Int.toNat_natCast] at hi1
                  have hgs := gm_some HU.out (j := iN) l.length (by rw [HPN.out]; exact Nat.le_refl _) (by rw [← HPN.out]; exact hi1)
                  obtain ⟨p, hpp, hp1, hp2, hp3, hp4⟩ := HPC.out iN (by rw [← HPN.out]; exact hi1)
                  rw [← hpp] at hhead hno hgs
                  obtain ⟨x, r, hbi⟩ := List.exists_cons_of_ne_nil hbo.1
                  have hbl : 0 < bids.length := by rw [hbi]; simp
                  obtain ⟨gi, oi, hsl, hgi, hci⟩ := HRB.out.at hbl
                  have ei := (hB5d.cell (p := ⟨gi, oi + 0, none⟩) hgi).trans (hci 0 hbl)
                  have hx : bids[0]'hbl = p.id := by
                    have e : bids.head? = some (bids[0]'hbl) := by rw [List.head?_eq_getElem?, List.getElem?_eq_getElem hbl]
                    rw [e] at hhead
                    exact Option.some.inj hhead
                  rw [hx, Nat.add_zero] at ei
                  obtain ⟨id, pt, cd, gr, br⟩ := p
                  dsimp only at ei hgs hp1 hp2 hp3 hp4 hno
                  have HGS : Hid (gmTo (mail24 l).ps l.length id = some gr) := hgs
                  have HID := Lib.hid (HI7.out.below HBD.out)
                  have hd4 : decide (agm + gr ≤ kg) = false := decide_eq_false (fun h => hno ⟨h3, h⟩)
                  have hkg2 := hkb.1.2.2.2
                  subst hsl
                  clear hno hhead hgs hpp hi0 hi1 hci hx h3 hbi hBd hB5d hbo
                  go_wp2_with fail
                  refine wp_region_quiet_lit (by kernel_rfl) (by kernel_rfl) ?_
                  repeat (go_big_quiet_step (fail))
                  go_big_quiet_want
                  refine quiet_look_II _ _ _ rfl Tryz.underlying43 B _ _ _ rfl HID.out id (WalkArith.wf_i64 (by omega)) rfl gr (by rw [HGS.out]; rfl) ?_
                  go_big_quiet_on
                  simp only [Act.put, List.setIfInBounds_toArray, List.set_cons_succ, List.set_cons_zero]
                  repeat (go_big_quiet_step (fail))
                  refine wpQuiet_nil ?_
                  intro _ hw'
                  obtain ⟨nq, hw''⟩ := hw'
                  subst hw''
                  go_wp2_with fail
                  go_roundw
                  case rel =>
                    first
                      | exact ⟨q + 1 + 1, by omega, .inl (by omega), by go_num, below_drewN HBD.out _⟩
                      | exact ⟨q + 1 + 1, by omega, .inl (by omega), by go_num, HBD.out.drew⟩
                      | exact ⟨q + 1 + 1, by omega, .inl (by omega), by go_num, HBD.out⟩
                  case measure => simp [intOf]; omega
                · have hd3 : decide ((aids.length : Int) < kp) = false := decide_eq_false h3
                  clear hBd hB5d hbo
                  go_wp2_with fail
                  go_quiet (fail)
                  go_wp2_with fail
                  go_roundw
                  case rel =>
                    first
                      | exact ⟨q + 1 + 1, by omega, .inl (by omega), by go_num, below_drewN HBD.out _⟩
                      | exact ⟨q + 1 + 1, by omega, .inl (by omega), by go_num, HBD.out.drew⟩
                      | exact ⟨q + 1 + 1, by omega, .inl (by omega), by go_num, HBD.out⟩
                  case measure => simp [intOf]; omega
              · have hs1 : (agr.toList == bgr.toList) = false := by rw [ba_eq]; exact decide_eq_false h2
                clear hBd hB5d hbo
                go_wp2_with fail
                go_quiet (fail)
                go_wp2_with fail
                go_roundw
                case rel =>
                  first
                    | exact ⟨q + 1 + 1, by omega, .inl (by omega), by go_num, below_drewN HBD.out _⟩
                    | exact ⟨q + 1 + 1, by omega, .inl (by omega), by go_num, HBD.out.drew⟩
                    | exact ⟨q + 1 + 1, by omega, .inl (by omega), by go_num, HBD.out⟩
                case measure => simp [intOf]; omega
            · have hs0 : (alv == blv) = false := by simp [h1]
              clear hBd hB5d hbo
              go_wp2_with fail
              go_quiet (fail)
              go_wp2_with fail
              go_roundw
              case rel =>
                first
                  | exact ⟨q + 1 + 1, by omega, .inl (by omega), by go_num, below_drewN HBD.out _⟩
                  | exact ⟨q + 1 + 1, by omega, .inl (by omega), by go_num, HBD.out.drew⟩
                  | exact ⟨q + 1 + 1, by omega, .inl (by omega), by go_num, HBD.out⟩
              case measure => simp [intOf]; omega
        · have HB77 := Lib.hid hB
          clear hB hj2
          go_wp2_with fail
          clear hB5 t0 t1 t2 hlt2
          go_loopw [23] (fun i wr => ∃ j : Nat, 1 ≤ j ∧ (j ≤ L.tras.length ∨ j = 1) ∧ i = .int .i64 j ∧ Below w7.heap.size w7 wr) (fun i _ => L.tras.length - (intOf i).toNat)
          case atStart => exact ⟨1, Nat.le_refl _, .inr rfl, rfl, HB77.out⟩
          case round =>
            obtain ⟨j, hj1, hj2, rfl, hB⟩ := hrel
            obtain ⟨wo, hwo⟩ : ∃ x, x = wr := ⟨_, rfl⟩
            subst hwo
            have hB5 := hB7.trans (hB.mono hB7.size)
            obtain ⟨⟨t0, t1, t2⟩, _⟩ := HTC.out wo hB5
            by_cases hlt2 : j < L.tras.length
            · obtain ⟨q, rfl⟩ : ∃ q, j = q + 1 := ⟨j - 1, by omega⟩
              have hq : q < L.tras.length := by omega
              obtain ⟨g, off, rfl, hg, hcg⟩ := HR.out.t.at (by omega)
              obtain ⟨as_, ac_, hra, hca⟩ := hcg q hq
              obtain ⟨bs_, bc_, hrb, hcb⟩ := hcg (q + 1) hlt2
              have a0 := (hB5.cell (p := ⟨g, off + q * 3 + 0, none⟩) hg).trans (hca 0 _ rfl)
              have b0 := (hB5.cell (p := ⟨g, off + (q + 1) * 3 + 0, none⟩) hg).trans (hcb 0 _ rfl)
              have a1 := (hB5.cell (p := ⟨g, off + q * 3 + 1, none⟩) hg).trans (hca 1 _ rfl)
              have b1 := (hB5.cell (p := ⟨g, off + (q + 1) * 3 + 1, none⟩) hg).trans (hcb 1 _ rfl)
              have a2 := (hB5.cell (p := ⟨g, off + q * 3 + 2, none⟩) hg).trans (hca 2 _ rfl)
              have b2 := (hB5.cell (p := ⟨g, off + (q + 1) * 3 + 2, none⟩) hg).trans (hcb 2 _ rfl)
              have hgo : g < wo.heap.size := by have := hB5.size; omega
              have hTo := (HTC.out wo hB5).2.2.2.1
              have hq3 : q < 300 := by omega
              rw [Nat.add_zero] at a0 b0
              have HF := Lib.hid (HH.out.tf _ _ (nextIn_at hlt2))
              obtain ⟨an, han⟩ : ∃ z, z = L.tras[q] := ⟨_, rfl⟩
              obtain ⟨bn, hbn⟩ : ∃ z, z = L.tras[q + 1] := ⟨_, rfl⟩
              rw [← han] at a0 a1 a2 hra HF
              rw [← hbn] at b0 b1 b2 hrb HF
              obtain ⟨alv, agr, aids⟩ := an
              obtain ⟨blv, bgr, bids⟩ := bn
              dsimp only at a0 a1 a2 b0 b1 b2 hra hrb HF
              have HRA := Lib.hid hra
              have HRB := Lib.hid hrb
              clear hca hcb hcg han hbn hra hrb
              go_upto_region 22 with fail
              go_cut [24, 25] from 125 to 135 (fun p r wx => ∃ A C, p = .pointer (some ⟨A, 0, none⟩) ∧ r = .pointer (some ⟨C, 0, none⟩) ∧ Below wo.heap.size wo wx ∧ wx.heap[A]? = some (.cells #[.int .i64 alv, .string agr, .slice as_ aids.length ac_] 49 (0, 0)) ∧ wx.heap[C]? = some (.cells #[.int .i64 blv, .string bgr, .slice bs_ bids.length bc_] 49 (0, 0)))
              case first =>
                go_region
                all_goals
                  go_wp2_with fail
                  go_meet
                  first
                    | exact ⟨_, _, rfl, rfl, (boxes2 rfl).2.2.2, (boxes2 rfl).1, (boxes2 rfl).2.1⟩
                    | exact ⟨_, _, rfl, rfl, (boxes2 rfl).2.2.2, (boxes2 rfl).2.1, (boxes2 rfl).1⟩
                    | exact ⟨_, _, rfl, rfl, (boxes2 rfl).2.2.2.drew, (boxes2 rfl).1, (boxes2 rfl).2.1⟩
                    | exact ⟨_, _, rfl, rfl, (boxes2 rfl).2.2.2.drew, (boxes2 rfl).2.1, (boxes2 rfl).1⟩
              case rest =>
                obtain ⟨A, C, rfl, rfl, hbx, hA, hC⟩ := hcut
                obtain ⟨wd, hwd⟩ : ∃ x, x = wc := ⟨_, rfl⟩
                subst hwd
                have hBd := hB.trans (hbx.mono hB.size)
                have hB5d := hB5.trans (hbx.mono hB5.size)
                have HBD := Lib.hid hBd
                obtain ⟨a0, a1, a2⟩ := cells3 hA
                obtain ⟨b0, b1, b2⟩ := cells3 hC
                obtain ⟨_, _, ⟨y0, y1, y2, y3⟩, _⟩ := HTC.out wd hB5d
                clear hgo hTo hB hbx hA hC hB5
                by_cases h1 : alv = blv
                · subst h1
                  by_cases h2 : agr = bgr
                  · subst h2
                    have hs1 : (agr.toList == agr.toList) = true := by simp
                    have h3 : (aids.length : Int) = kb := HF.out (by first | trivial | rfl) (by first | trivial | rfl)
                    have hd3 : ((aids.length : Int) != kb) = false := by simp [h3]
                    clear hBd hB5d h3
                    go_wp2_with fail
                    go_wp2_with fail
                    go_roundw
                    case rel =>
                      first
                        | exact ⟨q + 1 + 1, by omega, .inl (by omega), by go_num, below_drewN HBD.out _⟩
                        | exact ⟨q + 1 + 1, by omega, .inl (by omega), by go_num, HBD.out.drew⟩
                        | exact ⟨q + 1 + 1, by omega, .inl (by omega), by go_num, HBD.out⟩
                    case measure => simp [intOf]; omega
                  · have hs1 : (agr.toList == bgr.toList) = false := by rw [ba_eq]; exact decide_eq_false h2
                    clear hBd hB5d
                    go_wp2_with fail
                    go_wp2_with fail
                    go_roundw
                    case rel =>
                      first
                        | exact ⟨q + 1 + 1, by omega, .inl (by omega), by go_num, below_drewN HBD.out _⟩
                        | exact ⟨q + 1 + 1, by omega, .inl (by omega), by go_num, HBD.out.drew⟩
                        | exact ⟨q + 1 + 1, by omega, .inl (by omega), by go_num, HBD.out⟩
                    case measure => simp [intOf]; omega
                · have hs0 : (alv == blv) = false := by simp [h1]
                  clear hBd hB5d
                  go_wp2_with fail
                  go_wp2_with fail
                  go_roundw
                  case rel =>
                    first
                      | exact ⟨q + 1 + 1, by omega, .inl (by omega), by go_num, below_drewN HBD.out _⟩
                      | exact ⟨q + 1 + 1, by omega, .inl (by omega), by go_num, HBD.out.drew⟩
                      | exact ⟨q + 1 + 1, by omega, .inl (by omega), by go_num, HBD.out⟩
                  case measure => simp [intOf]; omega
            · have HB77 := Lib.hid hB
              clear hB hj2
              go_wp2_with fail
              clear hB5 t0 t1 t2 hlt2
              go_loopw [26] (fun i wr => ∃ j : Nat, 1 ≤ j ∧ (j ≤ L.cons.length ∨ j = 1) ∧ i = .int .i64 j ∧ Below w7.heap.size w7 wr) (fun i _ => L.cons.length - (intOf i).toNat)
              case atStart => exact ⟨1, Nat.le_refl _, .inr rfl, rfl, HB77.out⟩
              case round =>
                obtain ⟨j, hj1, hj2, rfl, hB⟩ := hrel
                obtain ⟨wo, hwo⟩ : ∃ x, x = wr := ⟨_, rfl⟩
                subst hwo
                have hB5 := hB7.trans (hB.mono hB7.size)
                obtain ⟨⟨t0, t1, t2⟩, _⟩ := HTC.out wo hB5
                by_cases hlt2 : j < L.cons.length
                · obtain ⟨q, rfl⟩ : ∃ q, j = q + 1 := ⟨j - 1, by omega⟩
                  have hq : q < L.cons.length := by omega
                  obtain ⟨g, off, rfl, hg, hcg⟩ := HR.out.c.at (by omega)
                  obtain ⟨as_, ac_, hra, hca⟩ := hcg q hq
                  obtain ⟨bs_, bc_, hrb, hcb⟩ := hcg (q + 1) hlt2
                  have a0 := (hB5.cell (p := ⟨g, off + q * 2 + 0, none⟩) hg).trans (hca 0 _ rfl)
                  have b0 := (hB5.cell (p := ⟨g, off + (q + 1) * 2 + 0, none⟩) hg).trans (hcb 0 _ rfl)
                  have a1 := (hB5.cell (p := ⟨g, off + q * 2 + 1, none⟩) hg).trans (hca 1 _ rfl)
                  have b1 := (hB5.cell (p := ⟨g, off + (q + 1) * 2 + 1, none⟩) hg).trans (hcb 1 _ rfl)
                  have hgo : g < wo.heap.size := by have := hB5.size; omega
                  have hTo := (HTC.out wo hB5).2.2.2.1
                  have hq3 : q < 300 := by omega
                  rw [Nat.add_zero] at a0 b0
                  have HF := Lib.hid (HH.out.cf _ _ (nextIn_at hlt2))
                  obtain ⟨an, han⟩ : ∃ z, z = L.cons[q] := ⟨_, rfl⟩
                  obtain ⟨bn, hbn⟩ : ∃ z, z = L.cons[q + 1] := ⟨_, rfl⟩
                  rw [← han] at a0 a1 hra HF
                  rw [← hbn] at b0 b1 hrb HF
                  obtain ⟨alv, aids⟩ := an
                  obtain ⟨blv, bids⟩ := bn
                  dsimp only at a0 a1 b0 b1 hra hrb HF
                  have HRA := Lib.hid hra
                  have HRB := Lib.hid hrb
                  clear hca hcb hcg han hbn hra hrb
                  go_upto_region 28 with fail
                  go_cut [27, 28] from 163 to 173 (fun p r wx => ∃ A C, p = .pointer (some ⟨A, 0, none⟩) ∧ r = .pointer (some ⟨C, 0, none⟩) ∧ Below wo.heap.size wo wx ∧ wx.heap[A]? = some (.cells #[.int .i64 alv, .slice as_ aids.length ac_] 51 (0, 0)) ∧ wx.heap[C]? = some (.cells #[.int .i64 blv, .slice bs_ bids.length bc_] 51 (0, 0)))
                  case first =>
                    go_region
                    all_goals
                      go_wp2_with fail
                      go_meet
                      first
                        | exact ⟨_, _, rfl, rfl, (boxes2 rfl).2.2.2, (boxes2 rfl).1, (boxes2 rfl).2.1⟩
                        | exact ⟨_, _, rfl, rfl, (boxes2 rfl).2.2.2, (boxes2 rfl).2.1, (boxes2 rfl).1⟩
                        | exact ⟨_, _, rfl, rfl, (boxes2 rfl).2.2.2.drew, (boxes2 rfl).1, (boxes2 rfl).2.1⟩
                        | exact ⟨_, _, rfl, rfl, (boxes2 rfl).2.2.2.drew, (boxes2 rfl).2.1, (boxes2 rfl).1⟩
                  case rest =>
                    obtain ⟨A, C, rfl, rfl, hbx, hA, hC⟩ := hcut
                    obtain ⟨wd, hwd⟩ : ∃ x, x = wc := ⟨_, rfl⟩
                    subst hwd
                    have hBd := hB.trans (hbx.mono hB.size)
                    have hB5d := hB5.trans (hbx.mono hB5.size)
                    have HBD := Lib.hid hBd
                    have a0 := cell_of_row _ _ 0 _ _ _ hA
                    have a1 := cell_of_row _ _ 1 _ _ _ hA
                    have b0 := cell_of_row _ _ 0 _ _ _ hC
                    have b1 := cell_of_row _ _ 1 _ _ _ hC
                    simp only [List.getElem?_toArray, List.getElem?_cons_zero, List.getElem?_cons_succ] at a0 a1 b0 b1
                    obtain ⟨_, _, ⟨y0, y1, y2, y3⟩, _⟩ := HTC.out wd hB5d
                    clear hgo hTo hB hbx hA hC hB5
                    by_cases h1 : alv = blv
                    · subst h1
                      have h3 : (aids.length : Int) = kt := HF.out (by first | trivial | rfl)
                      have hd3 : ((aids.length : Int) != kt) = false := by simp [h3]
                      clear hBd hB5d h3
                      go_wp2_with fail
                      go_wp2_with fail
                      go_roundw
                      case rel =>
                        first
                          | exact ⟨q + 1 + 1, by omega, .inl (by omega), by go_num, below_drewN HBD.out _⟩
                          | exact ⟨q + 1 + 1, by omega, .inl (by omega), by go_num, HBD.out.drew⟩
                          | exact ⟨q + 1 + 1, by omega, .inl (by omega), by go_num, HBD.out⟩
                      case measure => simp [intOf]; omega
                    · have hs0 : (alv == blv) = false := by simp [h1]
                      clear hBd hB5d
                      go_wp2_with fail
                      go_wp2_with fail
                      go_roundw
                      case rel =>
                        first
                          | exact ⟨q + 1 + 1, by omega, .inl (by omega), by go_num, below_drewN HBD.out _⟩
                          | exact ⟨q + 1 + 1, by omega, .inl (by omega), by go_num, HBD.out.drew⟩
                          | exact ⟨q + 1 + 1, by omega, .inl (by omega), by go_num, HBD.out⟩
                      case measure => simp [intOf]; omega
                · have HB77 := Lib.hid hB
                  clear hB hj2
                  go_wp2_with fail
                  go_ret
                  exact ⟨rfl, HB5.out.trans ((hB7.trans (HB77.out.mono hB7.size)).mono HB5.out.size)⟩
end Go.Proofs.YtelklmdlodgdpaaGreat
