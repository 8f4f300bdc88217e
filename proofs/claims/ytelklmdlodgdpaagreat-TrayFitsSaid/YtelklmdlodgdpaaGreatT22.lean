/-
  TrayFits: the walk.
-/
import Derived.Test.YtelklmdlodgdpaaGreatGQ
import Derived.BigQuiet
import Derived.BigRegion
import Derived.Deep.RegionWith
import Derived.Deep.DeepCutAuto
namespace Go.Proofs.YtelklmdlodgdpaaGreat
open Go.RowKit Go.Sort
set_option linter.unusedVariables false
set_option maxRecDepth 100000
set_option maxHeartbeats 32000000 in
theorem fits_walk (n b : Int) (vl vc vs : Value) {ls : List Lev} {l : List UInt16} {k : Pck} {zs : List Int} {ns : List ByteArray} {L : Lod} (w : World) (hM : MadeB #[.int .u32 n, vl, vc, vs, .int .i64 300, .int .u32 b] ls l zs k w) (hP : PackB ls l zs k L) (hzl : zs.length = l.length) (h : Pkd k (mail24 l).ps zs ns L) (hl : l.length ≤ 300)
    (hm : mailB (mail24 l) = true) (hkk : pckB k = true)
    (hC : ∀ W v vp vz vb vt vc, RdLevs W v ls → RdPces W vp (mail24 l).ps → RdInts W vz zs → RdLod W vb vt vc L → Calls Tryz.prog 13 #[v, .agg #[.int .u8 1, .int .u8 1, .string ⟨#[49, 48, 48, 50, 51]⟩, vp], vz, .agg #[.int .i64 k.pieces, .int .i64 k.grams, .int .i64 k.bundles, .int .i64 k.trays], .agg #[vb, vt, vc]] W fun e w' => e = .returned (.tuple #[.bool true, .int .i64 0]) ∧ Below W.heap.size W w')
    (hF : ∀ i, i < l.length → ∀ W v, RdLevs W v ls → Calls Tryz.prog 16 #[v, .int .i64 (zs.getD i (-1)), .string (pcAt (mail24 l).ps (i : Int)).code] W fun e w' => e = .returned (.tuple #[.string (ns.getD i noB), .int .i64 0]) ∧ Below W.heap.size W w') :
    Calls Tryz.prog 7 #[.int .u32 n, vl, vc, vs, .int .u32 b] w fun e w' => e = .returned (.bool true) ∧ Below w.heap.size w w' := by
  obtain ⟨hidg, hu⟩ := mail_ids hm
  have hkb : (1 ≤ k.pieces ∧ k.pieces ≤ 2000 ∧ 1 ≤ k.grams ∧ k.grams ≤ 1000000) ∧ (1 ≤ k.bundles ∧ k.bundles ≤ 200 ∧ 1 ≤ k.trays ∧ k.trays ≤ 200) := by
    unfold pckB at hkk
    rw [Bool.and_eq_true, decide_eq_true_eq, decide_eq_true_eq] at hkk
    exact hkk
  have hgb : ∀ b ∈ L.buns, b.grams ≤ k.grams := fun b hb => by obtain ⟨_, _, _, _, _, _, h6⟩ := h.ok.buns.good b hb; exact h6
  have hgb0 : ∀ b ∈ L.buns, 0 ≤ b.grams := fun b hb => by
    obtain ⟨I, hI, _, h3, _⟩ := h.ok.buns.good b hb
    rw [← h3]
    exact grams_posN (fun p hp => by have := hidg p hp; omega) I (fun i hi => (hI i hi).2.1)
  have HAW := Lib.hid (fun W => awake26_any W)
  have HMD : Hid (MadeB #[.int .u32 n, vl, vc, vs, .int .i64 300, .int .u32 b] ls l zs k w) := hM
  have HPK : Hid (PackB ls l zs k L) := hP
  have hpn : (mail24 l).ps.length = l.length := ps24_len _ _
  have hlen := h.lens
  rw [hpn] at hlen
  obtain ⟨hlb, hlt, hlc⟩ := hlen
  have HIL : Hid (∀ q (hq : q < L.buns.length), L.buns[q].ids.length ≤ 300) := fun q hq => Nat.le_trans (part_le (f := fun b : Bun => b.ids) (n := l.length) (by rw [h.idn, hpn]; exact Nat.le_refl _) _ (List.getElem_mem hq)) hl
  have HH := Lib.hid h
  have HZL := Lib.hid hzl
  have HWR := Lib.hid (fun W vb vt vc id (hr : RdLod W vb vt vc L) => where_any L id vb vt vc W hr (h.smallL (by rw [hpn]; omega)))
  have HWO : Hid (∀ i (hi : i < l.length), ∃ b t c, ∃ hb : b < L.buns.length, ∃ ht : t < L.tras.length, ∃ hc : c < L.cons.length, whereR L (pcAt (mail24 l).ps (i : Int)).id = ((b : Int), (t : Int), (c : Int), true) ∧ L.buns[b].lvl = zs.getD i (-1) ∧ L.buns[b].grp = ns.getD i noB ∧ L.tras[t].grp = L.buns[b].grp ∧ L.cons[c].lvl = zs.getD i (-1) ∧ (pcAt (mail24 l).ps (i : Int)).id ∈ L.buns[b].ids) := by
    intro i hi
    rw [pcAt_nat (by rw [hpn]; exact hi)]
    exact where_ok hu h.ok (by rw [hpn]; exact hi)
  have HST : Hid (∀ q (hq : q < L.buns.length), ∃ G : Nat → Int, G 0 = 0 ∧ G L.buns[q].ids.length = L.buns[q].grams ∧ (∀ p, p ≤ L.buns[q].ids.length → 0 ≤ G p ∧ G p ≤ 15000000) ∧ ∀ p (hp : p < L.buns[q].ids.length), ∃ g, gmTo (mail24 l).ps l.length L.buns[q].ids[p] = some g ∧ G (p + 1) = G p + g ∧ 0 ≤ g ∧ g ≤ 50000) := by
    intro q hq
    have := bun_steps hu (fun p hp => by have := hidg p hp; omega) (h.ok.buns.good _ (List.getElem_mem hq)) (HIL.out q hq)
    rw [hpn] at this
    exact this
  have HKP : Hid (∀ q (hq : q < L.buns.length), 1 ≤ L.buns[q].ids.length ∧ (L.buns[q].ids.length : Int) ≤ k.pieces) := by
    intro q hq
    obtain ⟨I, _, h2, _, h4, h5, _⟩ := h.ok.buns.good _ (List.getElem_mem hq)
    rw [h2, List.length_map]
    exact ⟨h4, h5⟩
  have HIDB : Hid (∀ q (hq : q < L.buns.length), ∀ i ∈ L.buns[q].ids, 0 < i ∧ i ≤ 999999) := fun q hq => (h.own _ (List.getElem_mem hq)).2.2
  have HFR : Hid (∀ q (hq : q < L.buns.length) p (hp : p < L.buns[q].ids.length), L.buns[q].ids[p] ∉ (L.buns.take q).flatMap (fun b => b.ids) ++ L.buns[q].ids.take p) := fun q hq p hp => flat_fresh h.ok.buns.once hq hp
  have HFL : Hid (∀ q, ((L.buns.take q).flatMap (fun b => b.ids)).length ≤ 300) := fun q => Nat.le_trans (flat_take_le q) (by rw [h.idn, hpn]; exact hl)
  have HFA : Hid ((L.buns.flatMap (fun b => b.ids)).length = l.length) := by
    show _ = _
    rw [h.idn, hpn]
  have HTL : Hid (∀ q (hq : q < L.tras.length), 1 ≤ L.tras[q].bs.length ∧ (L.tras[q].bs.length : Int) ≤ k.bundles) := fun q hq => h.ok.tras.once.lens _ (List.mem_map.2 ⟨_, List.getElem_mem hq, rfl⟩)
  have HCH := Lib.hid hC
  have HFI := Lib.hid hF
  have HTR : Hid (∀ W, Calls Tryz.prog 15 #[.agg #[.int .i64 k.pieces, .int .i64 k.grams, .int .i64 k.bundles, .int .i64 k.trays]] W fun e w' => e = .returned (.bool true) ∧ Below W.heap.size W w') := by
    intro W
    have := tRight_any k W
    rw [hkk] at this
    exact this
  obtain ⟨kp, kg, kb, kt⟩ := k
  obtain ⟨nl, hnl⟩ : ∃ z, z = ls.length := ⟨_, rfl⟩
  unfold MadeB at HMD
  unfold PackB at HPK
  rw [← hnl] at HMD
  dsimp only at HMD HPK
  dsimp only at hkb hgb
  have HPCS : ∀ j : Nat, j < l.length → ∃ p, p = pcAt (mail24 l).ps (j : Int) ∧ 0 < p.id ∧ p.id ≤ 999999 ∧ 1 ≤ p.grams ∧ p.grams ≤ 50000 := fun j hj => ⟨_, rfl, hidg _ (pcAt_memN (by rw [Int.toNat_natCast, hpn]; exact hj))⟩
  have HPC := Lib.hid HPCS
  have HU := Lib.hid hu
  have HGB := Lib.hid hgb
  have HG0 := Lib.hid hgb0
  have HPN := Lib.hid hpn
  dsimp only at HKP HTL HCH HTR
  clear hM hP hzl h hpn hnl hidg hu hgb hgb0 HPCS hm hkk hC hF
  go_enter Tryz.func7, Tryz.ntmps7
  go_wp2_with (first
    | (go_at_call 9; refine (HAW.out _).mono ?_; rintro e w1 ⟨rfl, hb1⟩)
    | (go_at_call 10; refine (HMD.out _ hb1).mono ?_; rintro e w2 ⟨al, cl, ap, cp, gz, rfl, hb2, hl2, hp2, hz2, hgz⟩; have hB2 : Below w.heap.size w w2 := hb1.trans (hb2.mono hb1.size)))
  obtain ⟨w3, hw3⟩ : ∃ w3, w3 = (w2.alloc (.cells #[.int .u8 1, .int .u8 1, .string ⟨#[49, 48, 48, 50, 51]⟩, .slice ap l.length cp] 29)).alloc (.cells #[.int .i64 kp, .int .i64 kg, .int .i64 kb, .int .i64 kt] 32) := ⟨_, rfl⟩
  rw [← hw3]
  obtain ⟨x1, x2, x3, hb23⟩ := boxes2 hw3
  refine (HPK.out w3 _ _ _ (hl2.reads.below hb23) ((RdPces.of_owns hp2).below hb23) ((rd_plan hz2 HZL.out).below hb23)).mono ?_
  rintro e w4 ⟨ab, cb, at', ct, ac, cc, rfl, hb4, hr4⟩
  have hB4 : Below w.heap.size w w4 := (hB2.trans (hb23.mono hB2.size)).trans (hb4.mono (Nat.le_trans hB2.size hb23.size))
  have hp5 := (RdPces.of_owns hp2).below (hb23.trans (hb4.mono hb23.size))
  have hx1 := (hb4.block _ (by omega)).trans x1
  have hx2 := (hb4.block _ (by omega)).trans x2
  have hs4 := hb4.size
  rw [x3] at hs4
  have hl4 : RdLevs w4 (.slice al nl cl) ls := (hl2.reads.below hb23).below hb4
  have hz4 : RdInts w4 (.slice (some ⟨gz, 0, none⟩) l.length l.length) zs := ((rd_plan hz2 HZL.out).below hb23).below hb4
  clear hw3 x1 x2 x3 hb23 hb4 hb1 hb2 hl2 hp2 hz2 hgz hB2 HMD HPK HAW
  go_upto_region 5 with fail
  obtain ⟨w5, hw5⟩ : ∃ w5, w5 = w4.alloc (.cells #[.slice ab L.buns.length cb, .slice at' L.tras.length ct, .slice ac L.cons.length cc] 39) := ⟨_, rfl⟩
  rw [← hw5]
  have hb45 : Below w4.heap.size w4 w5 := by rw [hw5]; exact (Below.refl _ _).alloc (Nat.le_refl _) _
  have hz5 : w5.heap.size = w4.heap.size + 1 := by rw [hw5, World.size_alloc]
  have h5 : w5.heap[w4.heap.size]? = some (.cells #[.slice ab L.buns.length cb, .slice at' L.tras.length ct, .slice ac L.cons.length cc] 39 (0, 0)) := by rw [hw5]; exact alloc_new w4 _
  obtain ⟨T, hT⟩ : ∃ T, T = w4.heap.size := ⟨_, rfl⟩
  obtain ⟨M, hM⟩ : ∃ M, M = w2.heap.size := ⟨_, rfl⟩
  rw [← hT] at h5 hz5 ⊢
  rw [← hM] at hx1 hx2 hs4 ⊢
  have HB5 : Hid (Below w.heap.size w w5) := hB4.trans (hb45.mono hB4.size)
  have HR : Hid (RdLod w5 (.slice ab L.buns.length cb) (.slice at' L.tras.length ct) (.slice ac L.cons.length cc) L) := hr4.below hb45
  have HP5 : Hid (RdPces w5 (.slice ap l.length cp) (mail24 l).ps) := hp5.below hb45
  have HL5 : Hid (RdLevs w5 (.slice al nl cl) ls) := hl4.below hb45
  have HZ5 : Hid (RdInts w5 (.slice (some ⟨gz, 0, none⟩) l.length l.length) zs) := hz4.below hb45
  have HTC : Hid (∀ W, Below w5.heap.size w5 W → (W.cell? ⟨T, 0, none⟩ = some (.slice ab L.buns.length cb) ∧ W.cell? ⟨T, 1, none⟩ = some (.slice at' L.tras.length ct) ∧ W.cell? ⟨T, 2, none⟩ = some (.slice ac L.cons.length cc)) ∧ (W.cell? ⟨M, 0, none⟩ = some (.int .u8 1) ∧ W.cell? ⟨M, 1, none⟩ = some (.int .u8 1) ∧ W.cell? ⟨M, 2, none⟩ = some (.string ⟨#[49, 48, 48, 50, 51]⟩) ∧ W.cell? ⟨M, 3, none⟩ = some (.slice ap l.length cp)) ∧ (W.cell? ⟨M + 1, 0, none⟩ = some (.int .i64 kp) ∧ W.cell? ⟨M + 1, 1, none⟩ = some (.int .i64 kg) ∧ W.cell? ⟨M + 1, 2, none⟩ = some (.int .i64 kb) ∧ W.cell? ⟨M + 1, 3, none⟩ = some (.int .i64 kt)) ∧ T < W.heap.size ∧ M + 1 < W.heap.size) := fun W hW => by
    have hwz := hW.size
    refine ⟨cells3 ((hW.block _ (by omega)).trans h5), cells4 (((hW.block _ (by omega)).trans (hb45.block _ (by omega))).trans hx1), cells4 (((hW.block _ (by omega)).trans (hb45.block _ (by omega))).trans hx2), by omega, by omega⟩
  have hTl : T < w5.heap.size := by omega
  clear hw5 hT hM h5 hz5 hb45 hB4 hr4 hp5 hx1 hx2 hs4 hl4 hz4
  obtain ⟨⟨t0, t1, t2⟩, ⟨m0, m1, m2, m3⟩, ⟨y0, y1, y2, y3⟩, _⟩ := HTC.out w5 (Below.refl _ _)
  have HTC2 := Lib.hid (fun w' (hb : Below w5.heap.size w5 w') => (HTC.out w' hb).2.2.1)
  go_upto_region 8 with (first
    | (go_at_call 13; refine (HCH.out _ _ _ _ _ _ _ HL5.out HP5.out HZ5.out HR.out).mono ?_; rintro e w6 ⟨rfl, hb6⟩; (have hq3 := HTC2.out w6 hb6); (obtain ⟨x0, x1, x2, x3⟩ := hq3))
    | (go_at_call 15; refine (HTR.out _).mono ?_; rintro e w7 ⟨rfl, hb7⟩))
  have hB7 : Below w5.heap.size w5 w7 := hb6.trans (hb7.mono hb6.size)
  clear t0 t1 t2 m0 m1 m2 m3 y0 y1 y2 y3 x0 x1 x2 x3 hb6 hb7 HTC2 HTR HCH
  have hmm := run_makeMap0
  go_upto_region 10 with fail
  obtain ⟨w9, hw9⟩ : ∃ w9, w9 = (w7.alloc (.map #[] 0)).alloc (.map #[] 0) := ⟨_, rfl⟩
  rw [← hw9]
  have hz8 : (w7.alloc (.map #[] 0)).heap.size = w7.heap.size + 1 := World.size_alloc _ _
  have hb8 : Below w7.heap.size w7 (w7.alloc (.map #[] 0)) := (Below.refl _ _).alloc (Nat.le_refl _) _
  have hb89 : Below (w7.alloc (.map #[] 0)).heap.size (w7.alloc (.map #[] 0)) w9 := by rw [hw9]; exact (Below.refl _ _).alloc (Nat.le_refl _) _
  have hIm : OwnsII w9 w7.heap.size 0 (mtO []) 0 := by
    rw [← mtO_nil]
    exact (OwnsII.made w7).below hb89
  have hIg : OwnsII w9 (w7.heap.size + 1) 0 (gmTo (mail24 l).ps 0) 0 := by
    have := OwnsII.made (w7.alloc (.map #[] 0))
    rw [hz8, ← hw9] at this
    exact this
  have hB9 : Below w5.heap.size w5 w9 := hB7.trans ((hb8.trans (hb89.mono (by omega))).mono hB7.size)
  obtain ⟨_, ⟨m0, m1, m2, m3⟩, _⟩ := HTC.out w9 hB9
  obtain ⟨Bm, hBm⟩ : ∃ B, B = w7.heap.size := ⟨_, rfl⟩
  rw [← hBm] at hIm hIg ⊢
  have HB9 := Lib.hid hB9
  have HIM := Lib.hid hIm
  have HIG := Lib.hid hIg
  have HBM : Hid (w5.heap.size ≤ Bm) := by
    show w5.heap.size ≤ Bm
    rw [hBm]; exact hB7.size
  clear hmm hw9 hz8 hb8 hb89 hB9 hIm hIg hBm hB7
  go_wp2_with fail
  clear m0 m1 m2 m3
  go_loopw [86] (fun i wr => ∃ j : Nat, j ≤ l.length ∧ i = .int .i64 j ∧ Below w5.heap.size w5 wr ∧ OwnsII wr (Bm + 1) j (gmTo (mail24 l).ps j) j ∧ OwnsII wr Bm 0 (mtO []) 0) (fun i _ => l.length - (intOf i).toNat)
  case atStart => exact ⟨0, Nat.zero_le _, rfl, HB9.out, HIG.out, HIM.out⟩
  case round =>
    obtain ⟨j, hj, rfl, hB, hI, hI2⟩ := hrel
    have HB := Lib.hid hB
    by_cases hlt2 : j < l.length
    · obtain ⟨g, off, rfl, hg, hat⟩ := HP5.out.atN (by rw [HPN.out]; omega)
      have hp := (hat j (by rw [HPN.out]; exact hlt2)).below hB hg
      obtain ⟨p, hpp, hp1, hp2, hp3, hp4⟩ := HPC.out j hlt2
      rw [← hpp] at hp
      have hsucc : gmTo (mail24 l).ps (j + 1) = fun u => if u = p.id then some p.grams else gmTo (mail24 l).ps j u := by rw [hpp]; rfl
      have hnone : gmTo (mail24 l).ps j p.id = none := by rw [hpp]; exact gm_none HU.out (by rw [HPN.out]; exact hlt2) j (Nat.le_refl _)
      obtain ⟨id, pt, cd, gr, br⟩ := p
      obtain ⟨p0, p1, p2, p3, p4⟩ := hp
      dsimp only at p0 p1 p2 p3 p4 hp1 hp2 hp3 hp4 hsucc hnone
      have hbx : Below wr.heap.size wr (wr.alloc (.cells #[.int .i64 id, .int .i64 pt, .string cd, .int .i64 gr, .bool br] 45)) := (Below.refl wr.heap.size wr).alloc (Nat.le_refl _) _
      have HI := Lib.hid (hI.below hbx)
      have HI2 := Lib.hid (hI2.below hbx)
      have HSU2 := Lib.hid hsucc
      have HNN := Lib.hid hnone
      clear hpp hat hB hI hI2 hsucc hnone hbx
      go_wp2_with (refine wpList_update_II _ rfl _ _ _ _ rfl Tryz.underlying43 (Bm + 1) j j (gmTo (mail24 l).ps j) rfl HI.out (by unfold maxLen; omega) id gr (WalkArith.wf_i64 (by omega)) (WalkArith.wf_i64 (by omega)) HNN.out rfl rfl ?_; intro w10 hown9 hg9)
      go_roundw
      case rel =>
        refine ⟨j + 1, by omega, by go_num, (HB.out.alloc HB.out.size _).grown hg9 (by have := HB.out.size; simp; omega) (fun r e => by rw [← Option.some.inj e]; have := HBM.out; omega), ?_, HI2.out.kept hg9 (by intro e; have := Option.some.inj e; omega)⟩
        rw [HSU2.out]
        exact hown9
      case measure => simp [intOf]; omega
    · obtain rfl : j = l.length := by omega
      obtain ⟨⟨t0, t1, t2⟩, _⟩ := HTC.out wr hB
      have HI := Lib.hid hI
      have HI2 := Lib.hid hI2
      clear hB hI hI2 hlt2 hj HIM HIG HB9
      go_wp2_with fail
      clear t0 t1 t2
      go_loopw [99] (fun i wr => ∃ q : Nat, q ≤ L.buns.length ∧ i = .int .i64 q ∧ Below w5.heap.size w5 wr ∧ OwnsII wr (Bm + 1) l.length (gmTo (mail24 l).ps l.length) l.length ∧ OwnsII wr Bm ((L.buns.take q).flatMap (fun b => b.ids)).length (mtO ((L.buns.take q).flatMap (fun b => b.ids))) ((L.buns.take q).flatMap (fun b => b.ids)).length) (fun i _ => L.buns.length - (intOf i).toNat)
      case atStart => exact ⟨0, Nat.zero_le _, rfl, HB.out, HI.out, HI2.out⟩
      case round =>
        obtain ⟨wo, hwo⟩ : ∃ x, x = wr := ⟨_, rfl⟩
        subst hwo
        clear HI HI2 HB
        obtain ⟨q, hq, rfl, hB, hI, hI2⟩ := hrel
        have HI := Lib.hid hI
        have HI2 := Lib.hid hI2
        have HB := Lib.hid hB
        by_cases hql : q < L.buns.length
        · obtain ⟨g, off, rfl, hg, hcg⟩ := HR.out.b.at (by omega)
          obtain ⟨sb, scb, hri, hcell⟩ := hcg q hql
          have e0 := (hB.cell (p := ⟨g, off + q * 4 + 0, none⟩) hg).trans (hcell 0 _ rfl)
          have e1 := (hB.cell (p := ⟨g, off + q * 4 + 1, none⟩) hg).trans (hcell 1 _ rfl)
          have e2 := (hB.cell (p := ⟨g, off + q * 4 + 2, none⟩) hg).trans (hcell 2 _ rfl)
          have e3 := (hB.cell (p := ⟨g, off + q * 4 + 3, none⟩) hg).trans (hcell 3 _ rfl)
          rw [Nat.add_zero] at e0
          dsimp only at e0 e1 e2 e3 hri
          obtain ⟨G, hG0, hGn, hGb, hGs⟩ := HST.out q hql
          have hkp := HKP.out q hql
          have hgm := HGB.out _ (List.getElem_mem hql)
          have hfr := HFR.out q hql
          have hidb := HIDB.out q hql
          have hsu : (L.buns.take (q + 1)).flatMap (fun b => b.ids) = (L.buns.take q).flatMap (fun b => b.ids) ++ L.buns[q].ids := flat_take_succ hql
          have hfl := HFL.out (q + 1)
          obtain ⟨pre, hpre⟩ : ∃ P, P = (L.buns.take q).flatMap (fun b => b.ids) := ⟨_, rfl⟩
          rw [← hpre] at hsu hfr HI2
          rw [hsu] at hfl
          obtain ⟨bn, hbn⟩ : ∃ z, z = L.buns[q] := ⟨_, rfl⟩
          have HSU := Lib.hid hsu
          rw [← hbn] at e0 e1 e2 e3 hri hGn hGb hkp hgm hidb hfl HSU
          have hGs' : ∀ p (hp : p < bn.ids.length), ∃ g, gmTo (mail24 l).ps l.length bn.ids[p] = some g ∧ G (p + 1) = G p + g ∧ 0 ≤ g ∧ g ≤ 50000 := by rw [hbn]; exact hGs
          have hfr' : ∀ p (hp : p < bn.ids.length), bn.ids[p] ∉ pre ++ bn.ids.take p := by rw [hbn]; exact hfr
          obtain ⟨lv, gr, ids, gm⟩ := bn
          dsimp only at e0 e1 e2 e3 hri hGn hGb hkp hgm hidb hfl HSU hGs' hfr'
          have HRI := Lib.hid hri
          have HGS := Lib.hid hGs'
          have HFRQ := Lib.hid hfr'
          have HIDQ := Lib.hid hidb
          have HGBQ := Lib.hid hGb
          have HGN := Lib.hid hGn
          rw [List.length_append] at hfl
          have hgn2 := hGb ids.length (Nat.le_refl _)
          rw [hGn] at hgn2
          clear hbn hpre hsu hcg hcell hri hGs hGs' hfr hfr' hidb hGb hGn hB hI hI2
          go_wp2_with fail
          obtain ⟨wb, hwb⟩ : ∃ x, x = wo.alloc (.cells #[.int .i64 lv, .string gr, .slice sb ids.length scb, .int .i64 gm] 47) := ⟨_, rfl⟩
          rw [← hwb]
          have hbb : Below wo.heap.size wo wb := by rw [hwb]; exact (Below.refl _ _).alloc (Nat.le_refl _) _
          have hnb : wb.heap[wo.heap.size]? = some (.cells #[.int .i64 lv, .string gr, .slice sb ids.length scb, .int .i64 gm] 47 (0, 0)) := by rw [hwb]; exact alloc_new wo _
          have hBb : Below w5.heap.size w5 wb := HB.out.trans (hbb.mono HB.out.size)
          have hI := HI.out.below hbb
          have hI2 := HI2.out.below hbb
          have hXB : Bm + 1 < wo.heap.size := HI.out.lt
          obtain ⟨X, hX⟩ : ∃ X, X = wo.heap.size := ⟨_, rfl⟩
          rw [← hX] at hnb hXB ⊢
          have HNB := Lib.hid hnb
          have HI3 := Lib.hid hI
          have HI4 := Lib.hid hI2
          have HBB := Lib.hid hBb
          clear hwb hbb hnb hBb hI hI2 hX HI HI2 HB e0 e1 e2 e3
          go_loopw [25, 106] (fun a i wq => ∃ p : Nat, p ≤ ids.length ∧ i = .int .i64 p ∧ a = .int .i64 (G p) ∧ Below w5.heap.size w5 wq ∧ wq.heap[X]? = some (.cells #[.int .i64 lv, .string gr, .slice sb ids.length scb, .int .i64 gm] 47 (0, 0)) ∧ OwnsII wq (Bm + 1) l.length (gmTo (mail24 l).ps l.length) l.length ∧ OwnsII wq Bm (pre ++ ids.take p).length (mtO (pre ++ ids.take p)) (pre ++ ids.take p).length) (fun _ i _ => ids.length - (intOf i).toNat)
          case atStart => exact ⟨0, Nat.zero_le _, rfl, by rw [hG0], HBB.out, HNB.out, HI3.out, by rw [List.take_zero, List.append_nil]; exact HI4.out⟩
          case round =>
            clear HI3 HI4 HBB HNB
            obtain ⟨p, hp, rfl, rfl, hBq, hnq, hI, hI2⟩ := hrel
            by_cases hpl : p < ids.length
            · obtain ⟨gi, oi, rfl, hgi, hci⟩ := HRI.out.at (by omega)
              have ei := (hBq.cell (p := ⟨gi, oi + p, none⟩) hgi).trans (hci p hpl)
              obtain ⟨gg, hgg, hGp, hg0, hg5⟩ := HGS.out p hpl
              have hfx := HFRQ.out p hpl
              have hidx := HIDQ.out _ (List.getElem_mem hpl)
              have hgb1 := HGBQ.out p (by omega)
              have hgb2 := HGBQ.out (p + 1) (by omega)
              have hpl2 : (pre ++ ids.take p).length = pre.length + p := by rw [List.length_append, List.length_take]; omega
              have hts : pre ++ ids.take (p + 1) = (pre ++ ids.take p) ++ [ids[p]] := by rw [List.take_succ_eq_append_getElem hpl, List.append_assoc]
              obtain ⟨v, hv⟩ : ∃ v, v = ids[p] := ⟨_, rfl⟩
              rw [← hv] at ei hgg hfx hidx hts
              obtain ⟨P, hP⟩ : ∃ P, P = pre ++ ids.take p := ⟨_, rfl⟩
              rw [← hP] at hI2 hfx hpl2 hts
              have hlk1 : mtO P v = none := mtO_none hfx
              obtain ⟨z, hz⟩ : ∃ z, z = G p := ⟨_, rfl⟩
              rw [← hz] at hGp hgb1 ⊢
              rw [hGp] at hgb2
              have HGP := Lib.hid hGp
              have HI := Lib.hid hI
              have HI2 := Lib.hid hI2
              have HBQ := Lib.hid hBq
              have HNQ := Lib.hid hnq
              have HTS := Lib.hid hts
              have HL1 := Lib.hid hlk1
              have HGG := Lib.hid hgg
              have HPL2 : Hid (P.length ≤ 300) := by
                show P.length ≤ 300
                omega
              clear hci hv hP hz hGp hI hI2 hBq hnq hts hlk1 hgg hfx hpl2
              go_wp2_with (first
                | (refine wpList_look0_II _ rfl _ _ _ rfl Tryz.underlying43 (Bm + 1) l.length l.length _ rfl HIK.out v (WalkArith.wf_i64 (by omega)) rfl gg (by rw [HGG.out]; rfl) ?_)
                | (refine wpList_update_II _ rfl _ _ _ _ rfl Tryz.underlying43 Bm P.length P.length (mtO P) rfl HI2.out (by have := HPL2.out; unfold maxLen; omega) v 1 (WalkArith.wf_i64 (by omega)) (WalkArith.wf_i64 (by omega)) HL1.out rfl rfl ?_; intro w10 hown9 hg9; have HIK := Lib.hid (HI.out.kept hg9 (by intro e; have := Option.some.inj e; omega)); have HOW := Lib.hid hown9; clear hown9)
                | (refine wpList_look0_II _ rfl _ _ _ rfl Tryz.underlying43 Bm P.length P.length _ rfl HI2.out v (WalkArith.wf_i64 (by omega)) rfl 0 (by rw [HL1.out]; rfl) ?_))
              go_roundw
              case rel =>
                refine ⟨p + 1, by omega, by go_num, by rw [HGP.out], HBQ.out.grown hg9 HBQ.out.size (fun r e => by rw [← Option.some.inj e]; have := HBM.out; omega), (hg9.block X (Array.getElem?_eq_some_iff.1 HNQ.out).1 (by intro e; have := Option.some.inj e; omega)).trans HNQ.out, HIK.out, ?_⟩
                rw [HTS.out, List.length_append]
                have := HOW.out
                rw [mtO_snoc] at this
                exact this
              case measure => simp [intOf]; omega
            · obtain rfl : p = ids.length := by omega
              rw [List.take_length, ← HSU.out] at hI2
              obtain ⟨f0, f1, f2, f3⟩ := cells4 hnq
              obtain ⟨_, _, ⟨y0, y1, y2, y3⟩, _⟩ := HTC.out wr hBq
              have hGe := HGN.out
              rw [hGe]
              have hc1 : decide ((ids.length : Int) < 1) = false := decide_eq_false (by omega)
              have hc2 : decide (kp < (ids.length : Int)) = false := decide_eq_false (by omega)
              have hc3 : (gm != gm) = false := by simp
              have hc4 : decide (kg < gm) = false := decide_eq_false (by omega)
              have HI := Lib.hid hI
              have HI2 := Lib.hid hI2
              have HBQ := Lib.hid hBq
              clear hI hI2 hBq hnq hGe hpl
              go_wp2_with fail
              go_roundw
              case rel => exact ⟨q + 1, by omega, by go_num, HBQ.out, HI.out, HI2.out⟩
              case measure => simp [intOf]; omega
        · obtain rfl : q = L.buns.length := by omega
          rw [List.take_length] at hI2
          obtain ⟨⟨t0, t1, t2⟩, _⟩ := HTC.out wo hB
          have HB8 := Lib.hid hB
          obtain ⟨w8, hw8⟩ : ∃ x, x = wo := ⟨_, rfl⟩
          subst hw8
          have HIM8 := Lib.hid hI2
          have HIG8 := Lib.hid hI
          clear hB hI hI2 HI HI2 HB hql hq
          go_wp2_with fail
          clear t0 t1 t2
          go_loopw [148] (fun i wr => ∃ q : Nat, q ≤ L.tras.length ∧ i = .int .i64 q ∧ Below w8.heap.size w8 wr) (fun i _ => L.tras.length - (intOf i).toNat)
          case atStart => exact ⟨0, Nat.zero_le _, rfl, Below.refl _ _⟩
          case round =>
            obtain ⟨wp, hwp⟩ : ∃ x, x = wr := ⟨_, rfl⟩
            subst hwp
            obtain ⟨q, hq, rfl, hB⟩ := hrel
            have hB5 := HB8.out.trans (hB.mono HB8.out.size)
            by_cases hql : q < L.tras.length
            · obtain ⟨g, off, rfl, hg, hcg⟩ := HR.out.t.at (by omega)
              obtain ⟨sb, scb, hri, hcell⟩ := hcg q hql
              have e0 := (hB5.cell (p := ⟨g, off + q * 3 + 0, none⟩) hg).trans (hcell 0 _ rfl)
              have e1 := (hB5.cell (p := ⟨g, off + q * 3 + 1, none⟩) hg).trans (hcell 1 _ rfl)
              have e2 := (hB5.cell (p := ⟨g, off + q * 3 + 2, none⟩) hg).trans (hcell 2 _ rfl)
              rw [Nat.add_zero] at e0
              dsimp only at e0 e1 e2 hri
              have htl := HTL.out q hql
              obtain ⟨bn, hbn⟩ : ∃ z, z = L.tras[q] := ⟨_, rfl⟩
              rw [← hbn] at e0 e1 e2 htl
              obtain ⟨lv, gr, ids⟩ := bn
              dsimp only at e0 e1 e2 htl
              have hc1 : decide ((ids.length : Int) < 1) = false := decide_eq_false (by omega)
              have hc2 : decide (kb < (ids.length : Int)) = false := decide_eq_false (by omega)
              obtain ⟨_, _, ⟨y0, y1, y2, y3⟩, _, hM1⟩ := HTC.out wp hB5
              have HBX : Hid (∀ u : Obj, Below w8.heap.size w8 (wp.alloc u)) := fun u => hB.alloc hB.size u
              clear hbn hcg hcell hri hB hB5
              go_wp2_with fail
              go_roundw
              case rel => exact ⟨q + 1, by omega, by go_num, HBX.out _⟩
              case measure => simp [intOf]; omega
            · obtain rfl : q = L.tras.length := by omega
              obtain ⟨_, ⟨m0, m1, m2, m3⟩, _⟩ := HTC.out wp hB5
              have HB9 := Lib.hid hB
              obtain ⟨w9', hw9'⟩ : ∃ x, x = wp := ⟨_, rfl⟩
              subst hw9'
              clear hB hB5 hql hq
              go_wp2_with fail
              clear m0 m1 m2 m3
              go_loopw [168] (fun i wr => ∃ j : Nat, j ≤ l.length ∧ i = .int .i64 j ∧ Below w8.heap.size w8 wr) (fun i _ => l.length - (intOf i).toNat)
              case atStart => exact ⟨0, Nat.zero_le _, rfl, HB9.out⟩
              case round =>
                obtain ⟨wq, hwq⟩ : ∃ x, x = wr := ⟨_, rfl⟩
                subst hwq
                obtain ⟨j, hj, rfl, hB⟩ := hrel
                have hB5 := HB8.out.trans (hB.mono HB8.out.size)
                by_cases hlt2 : j < l.length
                · obtain ⟨g, off, rfl, hg, hat⟩ := HP5.out.atN (by rw [HPN.out]; omega)
                  have hp := (hat j (by rw [HPN.out]; exact hlt2)).below hB5 hg
                  obtain ⟨p, hpp, hp1, hp2, hp3, hp4⟩ := HPC.out j hlt2
                  obtain ⟨bi, ti, ci, hbi, hti, hci, hwh, hbl, hbg, htg, hcl, hmem⟩ := HWO.out j hlt2
                  have hfi := HFI.out j hlt2
                  rw [← hpp] at hp hwh hfi hmem
                  have hmt : mtO (L.buns.flatMap (fun b => b.ids)) p.id = some 1 := mtO_some (List.mem_flatMap.2 ⟨_, List.getElem_mem hbi, hmem⟩)
                  obtain ⟨id, pt, cd, gr, br⟩ := p
                  obtain ⟨p0, p1, p2, p3, p4⟩ := hp
                  dsimp only at p0 p1 p2 p3 p4 hp1 hp2 hwh hfi hmt
                  have HWW : Hid (∀ W vb vt vc, RdLod W vb vt vc L → Calls Tryz.prog 14 #[.agg #[vb, vt, vc], .int .i64 id] W fun e w' => e = .returned (.tuple #[.int .i64 bi, .int .i64 ti, .int .i64 ci, .bool true]) ∧ Below W.heap.size W w') := by
                    intro W vb vt vc hr
                    have := HWR.out W vb vt vc id hr
                    rw [hwh] at this
                    exact this
                  have HFF := Lib.hid hfi
                  have HMT := Lib.hid hmt
                  have hzl : j < zs.length := by rw [HZL.out]; exact hlt2
                  obtain ⟨gz', oz', hgz, hgzl, hcz⟩ := HZ5.out.at (by omega)
                  injection hgz with hgz
                  injection hgz with hgz1 hgz2 _
                  subst hgz1 hgz2
                  have hzj := hcz j hzl
                  rw [Nat.zero_add] at hzj
                  have hze : zs.getD j (-1) = zs[j] := by rw [List.getD_eq_getElem?_getD, List.getElem?_eq_getElem hzl]; rfl
                  obtain ⟨gb, ob, hvb, hgb, hcb⟩ := HR.out.b.at (by omega)
                  obtain ⟨gt, ot, hvt, hgt, hct⟩ := HR.out.t.at (by omega)
                  obtain ⟨gc, oc, hvc, hgc, hcc⟩ := HR.out.c.at (by omega)
                  subst hvb hvt hvc
                  obtain ⟨_, _, _, hcb⟩ := hcb bi hbi
                  obtain ⟨_, _, _, hct⟩ := hct ti hti
                  obtain ⟨_, _, _, hcc⟩ := hcc ci hci
                  have b0 := hcb 0 _ rfl
                  have b1 := hcb 1 _ rfl
                  have c1 := hct 1 _ rfl
                  have d0 := hcc 0 _ rfl
                  rw [Nat.add_zero] at b0 d0
                  dsimp only at b0 b1 c1 d0
                  rw [htg] at c1
                  rw [hbl, hze] at b0
                  rw [hbg] at b1 c1
                  rw [hcl, hze] at d0
                  rw [hze] at HFF
                  obtain ⟨z, hz⟩ : ∃ z, z = zs[j] := ⟨_, rfl⟩
                  obtain ⟨nmj, hnm⟩ : ∃ z, z = ns.getD j noB := ⟨_, rfl⟩
                  rw [← hz] at hzj b0 d0 HFF
                  rw [← hnm] at b1 c1 HFF
                  have HFX : Hid (∀ W, Below w5.heap.size w5 W → W.cell? ⟨gb, ob + bi * 4, none⟩ = some (.int .i64 z) ∧ W.cell? ⟨gb, ob + bi * 4 + 1, none⟩ = some (.string nmj) ∧ W.cell? ⟨gt, ot + ti * 3 + 1, none⟩ = some (.string nmj) ∧ W.cell? ⟨gc, oc + ci * 2, none⟩ = some (.int .i64 z) ∧ W.cell? ⟨gz, j, none⟩ = some (.int .i64 z)) := fun W hW =>
                    ⟨(hW.cell (p := ⟨gb, ob + bi * 4, none⟩) hgb).trans b0, (hW.cell (p := ⟨gb, ob + bi * 4 + 1, none⟩) hgb).trans b1, (hW.cell (p := ⟨gt, ot + ti * 3 + 1, none⟩) hgt).trans c1, (hW.cell (p := ⟨gc, oc + ci * 2, none⟩) hgc).trans d0, (hW.cell (p := ⟨gz, j, none⟩) hgzl).trans hzj⟩
                  obtain ⟨⟨t0, t1, t2⟩, _, _, hTo, _⟩ := HTC.out wq hB5
                  have HBq := Lib.hid hB
                  clear hpp hat hwh hbl hbg htg hcl hmem hfi hmt hcz hzj hze hcb hct hcc b0 b1 c1 d0 hz hnm hzl hB hgb hgt hgc hgzl
                  go_upto_region 37 with fail
                  obtain ⟨wb, hwb⟩ : ∃ x, x = wq.alloc (.cells #[.int .i64 id, .int .i64 pt, .string cd, .int .i64 gr, .bool br] 45) := ⟨_, rfl⟩
                  rw [← hwb]
                  have hbb : Below wq.heap.size wq wb := by rw [hwb]; exact (Below.refl _ _).alloc (Nat.le_refl _) _
                  have hnb : wb.heap[wq.heap.size]? = some (.cells #[.int .i64 id, .int .i64 pt, .string cd, .int .i64 gr, .bool br] 45 (0, 0)) := by rw [hwb]; exact alloc_new wq _
                  have hBb : Below w5.heap.size w5 wb := hB5.trans (hbb.mono hB5.size)
                  have hB8b : Below w8.heap.size w8 wb := HBq.out.trans (hbb.mono HBq.out.size)
                  obtain ⟨X, hX⟩ : ∃ X, X = wq.heap.size := ⟨_, rfl⟩
                  rw [← hX] at hnb ⊢
                  have hXl : X < wb.heap.size := (Array.getElem?_eq_some_iff.1 hnb).1
                  have HNB := Lib.hid hnb
                  have HBB := Lib.hid hBb
                  have HB8B := Lib.hid hB8b
                  obtain ⟨⟨t0, t1, t2⟩, _⟩ := HTC.out wb hBb
                  have x0 := cell_of_row _ _ 0 _ _ _ hnb
                  simp only [List.getElem?_toArray, List.getElem?_cons_zero] at x0
                  clear hwb hbb hnb hBb hB8b hX hB5 p0 p1 p2 p3 p4 hTo
                  go_upto_region 38 with (go_at_call 14; refine (HWW.out _ _ _ _ (RdLod.below HR.out HBB.out)).mono ?_; rintro e wc ⟨rfl, hbc⟩)
                  have hBc : Below w5.heap.size w5 wc := HBB.out.trans (hbc.mono HBB.out.size)
                  have hB8c : Below w8.heap.size w8 wc := HB8B.out.trans (hbc.mono HB8B.out.size)
                  have hnc := (hbc.block _ hXl).trans HNB.out
                  clear t0 t1 t2 x0
                  obtain ⟨⟨t0, t1, t2⟩, _⟩ := HTC.out wc hBc
                  obtain ⟨f0, f1, f2, f3, f4⟩ := HFX.out wc hBc
                  have x0 := cell_of_row _ _ 0 _ _ _ hnc
                  have x2 := cell_of_row _ _ 2 _ _ _ hnc
                  simp only [List.getElem?_toArray, List.getElem?_cons_zero, List.getElem?_cons_succ] at x0 x2
                  have HIMc := Lib.hid (HIM8.out.below hB8c)
                  have hs1 : (nmj.toList == nmj.toList) = true := by simp
                  have hs2 : (z != z) = false := by simp
                  have HBC := Lib.hid hBc
                  have HB8C := Lib.hid hB8c
                  have HNC := Lib.hid hnc
                  clear hBc hB8c hbc hnc HNB HBB HB8B
                  refine wp_region_quiet_lit (by kernel_rfl) (by kernel_rfl) ?_
                  repeat (go_big_quiet_step (fail))
                  go_big_quiet_want
                  refine quiet_look_II _ _ _ rfl Tryz.underlying43 Bm _ _ _ rfl HIMc.out id (WalkArith.wf_i64 (by omega)) rfl 1 (by rw [HMT.out]; rfl) ?_
                  go_big_quiet_on
                  simp only [Act.put, List.setIfInBounds_toArray, List.set_cons_succ, List.set_cons_zero]
                  repeat (go_big_quiet_step (fail))
                  refine wpQuiet_nil ?_
                  intro _ hw'
                  obtain ⟨nq, hw''⟩ := hw'
                  subst hw''
                  obtain ⟨wd, hwd⟩ : ∃ x, x = wc.drewN nq := ⟨_, rfl⟩
                  rw [← hwd]
                  have hbd : Below wc.heap.size wc wd := by rw [hwd]; exact below_drewN (Below.refl _ _) _
                  have hBd := HBC.out.trans (hbd.mono HBC.out.size)
                  have hB8d := HB8C.out.trans (hbd.mono HB8C.out.size)
                  have hnd := (hbd.block _ (Array.getElem?_eq_some_iff.1 HNC.out).1).trans HNC.out
                  clear t0 t1 t2 x0 x2 f0 f1 f2 f3 f4 hwd hbd
                  obtain ⟨⟨t0, t1, t2⟩, _⟩ := HTC.out wd hBd
                  obtain ⟨f0, f1, f2, f3, f4⟩ := HFX.out wd hBd
                  have x2 := cell_of_row _ _ 2 _ _ _ hnd
                  simp only [List.getElem?_toArray, List.getElem?_cons_zero, List.getElem?_cons_succ] at x2
                  have HBD := Lib.hid hBd
                  have HB8D := Lib.hid hB8d
                  clear hBd hB8d hnd
                  go_upto_region 40 with fail
                  have HL6 : Hid (RdLevs wd.drew (.slice al nl cl) ls) := HL5.out.below HBD.out.drew
                  go_region_with (go_at_call 16; refine (HFF.out _ _ HL6.out).mono ?_; rintro e we ⟨rfl, hbe⟩)
                  all_goals
                    have hBe : Below w5.heap.size w5 we := HBD.out.drew.trans (hbe.mono HBD.out.size)
                    have hB8e : Below w8.heap.size w8 we := HB8D.out.drew.trans (hbe.mono HB8D.out.size)
                    clear t0 t1 t2 f0 f1 f2 f3 f4 x2 hbe
                    obtain ⟨⟨t0, t1, t2⟩, _⟩ := HTC.out we hBe
                    obtain ⟨f0, f1, f2, f3, f4⟩ := HFX.out we hBe
                    have HB8E := Lib.hid hB8e
                    clear hBe hB8e
                    go_wp2_with fail
                    go_roundw
                    case rel => exact ⟨j + 1, by omega, by go_num, HB8E.out⟩
                    case measure => simp [intOf]; omega
                · obtain rfl : j = l.length := by omega
                  obtain ⟨_, ⟨m0, m1, m2, m3⟩, _⟩ := HTC.out wq hB5
                  have him := HIM8.out.below hB
                  rw [HFA.out] at him
                  have HIMQ := Lib.hid him
                  have HBQ := Lib.hid hB5
                  clear him hB hB5 hlt2 hj
                  go_wp2_with (refine wpList_len_II _ rfl _ _ rfl Tryz.underlying43 Bm _ _ _ rfl HIMQ.out ?_)
                  go_ret
                  exact ⟨rfl, HB5.out.trans (HBQ.out.mono HB5.out.size)⟩
end Go.Proofs.YtelklmdlodgdpaaGreat
