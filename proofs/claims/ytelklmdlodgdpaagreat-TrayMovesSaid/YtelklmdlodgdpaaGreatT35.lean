/-
  TrayMoves: the walk.
-/
import Derived.Test.YtelklmdlodgdpaaGreatGS
import Derived.Test.YtelklmdlodgdpaaGreatGQ
import Derived.BigQuiet
import Derived.BigRegion
import Derived.Lib.QuietBelow
import Derived.Deep.RegionWith
import Derived.Deep.DeepCutAuto
namespace Go.Proofs.YtelklmdlodgdpaaGreat
open Go.RowKit Go.Sort
set_option linter.unusedVariables false
set_option linter.unusedSimpArgs false
set_option maxRecDepth 100000
/-- What a call of Pack brings, in memory of its own. -/
def PackO (ls : List Lev) (l : List UInt16) (zs : List Int) (k : Pck) (L : Lod) : Prop :=
  ∀ W v vp vz, RdLevs W v ls → RdPces W vp (mail24 l).ps → RdInts W vz zs → Calls Tryz.prog 11 #[v, .agg #[.int .u8 1, .int .u8 1, .string ⟨#[49, 48, 48, 50, 51]⟩, vp], vz, .agg #[.int .i64 k.pieces, .int .i64 k.grams, .int .i64 k.bundles, .int .i64 k.trays]] W fun e w' => ∃ ab cb at' ct ac cc, e = .returned (.tuple #[.agg #[.slice ab L.buns.length cb, .slice at' L.tras.length ct, .slice ac L.cons.length cc], .int .i64 0]) ∧ Below W.heap.size W w' ∧
    OwnsX 47 4 bunCell (fun b : Bun => b.ids) w' W.heap.size (.slice ab L.buns.length cb) L.buns ∧ OwnsX 49 3 traCell (fun t : Tra => t.bs) w' W.heap.size (.slice at' L.tras.length ct) L.tras ∧ OwnsX 51 2 conCell (fun c : Con => c.ts) w' W.heap.size (.slice ac L.cons.length cc) L.cons
theorem pack_o {ls : List Lev} {l : List UInt16} (h : HasPlan ls (mail24 l)) {k : Pck} (hk : pckB k = true) (hkg : ∀ p ∈ (mail24 l).ps, p.grams ≤ k.grams) : PackO ls l (planM ls (mail24 l)) k (lodM ls l k) := fun W v vp vz h1 h2 h3 => by
  refine (pack_ok h v vp vz _ k W h1 h2 h3 (planM_len _ _) h.nums (plan_allR h hk) hk hkg).mono ?_
  rintro e w' ⟨vb, vt, vc, rfl, hb, o1, o2, o3⟩
  obtain ⟨ab, cb, rfl⟩ := o1.form
  obtain ⟨at', ct, rfl⟩ := o2.form
  obtain ⟨ac, cc, rfl⟩ := o3.form
  exact ⟨ab, cb, at', ct, ac, cc, rfl, hb, o1, o2, o3⟩
set_option maxHeartbeats 32000000 in
theorem moves_walk (n b : Int) (ca cb' : UInt8) (vl vc vs : Value) {ls : List Lev} {l : List UInt16} {k : Pck} {zs : List Int} {ns : List ByteArray} {L : Lod} (w : World) (hM : MadeB #[.int .u32 n, vl, vc, vs, .int .i64 100, .int .u32 b] ls l zs k w) (hP : PackO ls l zs k L) (hzl : zs.length = l.length) (h : Pkd k (mail24 l).ps zs ns L) (hl : l.length ≤ 100)
    (hm : mailB (mail24 l) = true) (hkk : pckB k = true)
    (hC : ∀ W v vp vz vb vt vc L', RdLevs W v ls → RdPces W vp (mail24 l).ps → RdInts W vz zs → RdLod W vb vt vc L' → SmallL L' → (∀ b ∈ L'.buns, ∀ i ∈ b.ids, 0 ≤ i ∧ i ≤ 999999) → Calls Tryz.prog 13 #[v, .agg #[.int .u8 1, .int .u8 1, .string ⟨#[49, 48, 48, 50, 51]⟩, vp], vz, .agg #[.int .i64 k.pieces, .int .i64 k.grams, .int .i64 k.bundles, .int .i64 k.trays], .agg #[vb, vt, vc]] W fun e w' => ∃ u, e = .returned (.tuple #[u, .int .i64 0]) ∧ Below W.heap.size W w' ∧ IsB u (LodOk k (mail24 l).ps zs ns L')) :
    Calls Tryz.prog 5 #[.int .u32 n, vl, vc, vs, .int .u32 b, .int .u8 (ca.toNat : Int), .int .u8 (cb'.toNat : Int)] w fun e w' => e = .returned (.bool true) ∧ Below w.heap.size w w' := by
  obtain ⟨hidg, hu⟩ := mail_ids hm
  have hkb : (1 ≤ k.pieces ∧ k.pieces ≤ 2000 ∧ 1 ≤ k.grams ∧ k.grams ≤ 1000000) ∧ (1 ≤ k.bundles ∧ k.bundles ≤ 200 ∧ 1 ≤ k.trays ∧ k.trays ≤ 200) := by
    unfold pckB at hkk
    rw [Bool.and_eq_true, decide_eq_true_eq, decide_eq_true_eq] at hkk
    exact hkk
  have hgb : ∀ b ∈ L.buns, 0 ≤ b.grams ∧ b.grams ≤ 1000000 := fun b hb => by
    obtain ⟨I, hI, _, h3, _, _, h6⟩ := h.ok.buns.good b hb
    have := grams_posN (fun p hp => by have := hidg p hp; omega) I (fun i hi => (hI i hi).2.1)
    omega
  have HGB := Lib.hid hgb
  clear hgb hkb
  have HAW := Lib.hid (fun W => awake26_any W)
  have HMD : Hid (MadeB #[.int .u32 n, vl, vc, vs, .int .i64 100, .int .u32 b] ls l zs k w) := hM
  have HPK : Hid (PackO ls l zs k L) := hP
  have hpn : (mail24 l).ps.length = l.length := ps24_len _ _
  have hlen := h.lens
  rw [hpn] at hlen
  have hsm : SmallL L := h.smallL (by rw [hpn]; omega)
  have hbn0 : 0 < l.length → 0 < L.buns.length := fun h0 => by
    have h1 := h.idn
    rw [hpn] at h1
    cases hb : L.buns with
    | nil => rw [hb] at h1; simp at h1; omega
    | cons _ _ => simp
  have HSM := Lib.hid hsm
  have HH := Lib.hid h
  have HZL := Lib.hid hzl
  have HCH := Lib.hid hC
  have HU := Lib.hid hu
  have HIDG := Lib.hid hidg
  have HPN := Lib.hid hpn
  have HLEN := Lib.hid hlen
  have HBN0 := Lib.hid hbn0
  obtain ⟨kp, kg, kb, kt⟩ := k
  obtain ⟨nl, hnl⟩ : ∃ z, z = ls.length := ⟨_, rfl⟩
  unfold MadeB at HMD
  unfold PackO at HPK
  rw [← hnl] at HMD
  dsimp only at HMD HPK HCH
  clear hM hP hzl h hpn hnl hidg hu hm hC hlen hsm hbn0 hkk
  go_enter Tryz.func5, Tryz.ntmps5
  go_wp2_with (first
    | (go_at_call 9; refine (HAW.out _).mono ?_; rintro e w1 ⟨rfl, hb1⟩)
    | (go_at_call 10; refine (HMD.out _ hb1).mono ?_; rintro e w2 ⟨al, cl, ap, cp, gz, rfl, hb2, hl2, hp2, hz2, hgz⟩; have hB2 : Below w.heap.size w w2 := hb1.trans (hb2.mono hb1.size)))
  obtain ⟨w3, hw3⟩ : ∃ w3, w3 = (w2.alloc (.cells #[.int .u8 1, .int .u8 1, .string ⟨#[49, 48, 48, 50, 51]⟩, .slice ap l.length cp] 29)).alloc (.cells #[.int .i64 kp, .int .i64 kg, .int .i64 kb, .int .i64 kt] 32) := ⟨_, rfl⟩
  rw [← hw3]
  obtain ⟨x1, x2, x3, hb23⟩ := boxes2 hw3
  refine (HPK.out w3 _ _ _ (hl2.reads.below hb23) ((RdPces.of_owns hp2).below hb23) ((rd_plan hz2 HZL.out).below hb23)).mono ?_
  rintro e w4 ⟨ab, cb, at', ct, ac, cc, rfl, hb4, ob4, ot4, oc4⟩
  have HB3 : Hid (Below w.heap.size w w3) := hB2.trans (hb23.mono hB2.size)
  obtain ⟨M, hM⟩ : ∃ M, M = w2.heap.size := ⟨_, rfl⟩
  rw [← hM] at x1 x2 x3 ⊢
  have HX3 : Hid (∀ W, Below w3.heap.size w3 W → RdLevs W (.slice al nl cl) ls ∧ RdPces W (.slice ap l.length cp) (mail24 l).ps ∧ RdInts W (.slice (some ⟨gz, 0, none⟩) l.length l.length) zs ∧ (W.cell? ⟨M, 0, none⟩ = some (.int .u8 1) ∧ W.cell? ⟨M, 1, none⟩ = some (.int .u8 1) ∧ W.cell? ⟨M, 2, none⟩ = some (.string ⟨#[49, 48, 48, 50, 51]⟩) ∧ W.cell? ⟨M, 3, none⟩ = some (.slice ap l.length cp)) ∧ (W.cell? ⟨M + 1, 0, none⟩ = some (.int .i64 kp) ∧ W.cell? ⟨M + 1, 1, none⟩ = some (.int .i64 kg) ∧ W.cell? ⟨M + 1, 2, none⟩ = some (.int .i64 kb) ∧ W.cell? ⟨M + 1, 3, none⟩ = some (.int .i64 kt)) ∧ M + 1 < W.heap.size) := fun W hW => by
    have hs := hW.size
    exact ⟨(hl2.reads.below hb23).below hW, ((RdPces.of_owns hp2).below hb23).below hW, ((rd_plan hz2 HZL.out).below hb23).below hW, cells4 ((hW.block _ (by omega)).trans x1), cells4 ((hW.block _ (by omega)).trans x2), by omega⟩
  have HB4 : Hid (Below w3.heap.size w3 w4) := hb4
  clear hw3 x1 x2 x3 hb23 hb1 hb2 hl2 hp2 hz2 hgz hB2 HMD HPK HAW hM
  go_upto_region 5 with fail
  obtain ⟨w5, hw5⟩ : ∃ w5, w5 = w4.alloc (.cells #[.slice ab L.buns.length cb, .slice at' L.tras.length ct, .slice ac L.cons.length cc] 39) := ⟨_, rfl⟩
  rw [← hw5]
  have hb45 : Below w4.heap.size w4 w5 := by rw [hw5]; exact (Below.refl _ _).alloc (Nat.le_refl _) _
  have hz5 : w5.heap.size = w4.heap.size + 1 := by rw [hw5, World.size_alloc]
  have h5 : w5.heap[w4.heap.size]? = some (.cells #[.slice ab L.buns.length cb, .slice at' L.tras.length ct, .slice ac L.cons.length cc] 39 (0, 0)) := by rw [hw5]; exact alloc_new w4 _
  obtain ⟨T, hT⟩ : ∃ T, T = w4.heap.size := ⟨_, rfl⟩
  have ob5 := ob4.below hb45
  have ot5 := ot4.below hb45
  have oc5 := oc4.below hb45
  have HB5 : Hid (Below w3.heap.size w3 w5) := HB4.out.trans (hb45.mono HB4.out.size)
  rw [← hT] at h5 hz5 ⊢
  have HT5 := Lib.hid h5
  have HR : Hid (RdLod w5 (.slice ab L.buns.length cb) (.slice at' L.tras.length ct) (.slice ac L.cons.length cc) L) := rd_lod ob5 ot5 oc5
  have HOB := Lib.hid ob5
  have HOT := Lib.hid ot5
  have HOC := Lib.hid oc5
  have hTl : T < w5.heap.size := by omega
  have HTC : Hid (∀ W, Below w5.heap.size w5 W → W.cell? ⟨T, 0, none⟩ = some (.slice ab L.buns.length cb) ∧ W.cell? ⟨T, 1, none⟩ = some (.slice at' L.tras.length ct) ∧ W.cell? ⟨T, 2, none⟩ = some (.slice ac L.cons.length cc)) := fun W hW => cells3 ((hW.block _ hTl).trans h5)
  clear hw5 hb45 hz5 h5 hT ob4 ot4 oc4 ob5 ot5 oc5 hb4 HB4
  obtain ⟨t0, t1, t2⟩ := HTC.out w5 (Below.refl _ _)
  obtain ⟨_, _, _, ⟨m0, m1, m2, m3⟩, ⟨y0, y1, y2, y3⟩, hMl⟩ := HX3.out w5 HB5.out
  by_cases hl0 : l.length = 0
  · have hn1 : L.buns.length = 0 := by have := HLEN.out; omega
    have hn2 : L.tras.length = 0 := by have := HLEN.out; omega
    have hn3 : L.cons.length = 0 := by have := HLEN.out; omega
    rw [hn1] at t0
    rw [hn2] at t1
    rw [hn3] at t2
    rw [hl0] at m3
    clear hl0 hn1 hn2 hn3
    go_wp2_with fail
    go_ret
    exact ⟨rfl, HB3.out.trans (HB5.out.mono HB3.out.size)⟩
  · have hlp : 0 < l.length := by omega
    have hbp := HBN0.out hlp
    clear hl0
    have HCL := Lib.hid (copyLoad_any HR.out HSM.out)
    go_upto_region 10 with (go_at_call 12; refine HCL.out.mono ?_; rintro e w6 ⟨ab2, cb2, at2, ct2, ac2, cc2, W2, B1, rfl, hb6, o6, hB1, p6, e6, q6, z6⟩)
    obtain ⟨w7, hw7⟩ : ∃ w7, w7 = w6.alloc (.cells #[.slice ab2 L.buns.length cb2, .slice at2 L.tras.length ct2, .slice ac2 L.cons.length cc2] 39) := ⟨_, rfl⟩
    rw [← hw7]
    have hb67 : Below w6.heap.size w6 w7 := by rw [hw7]; exact (Below.refl _ _).alloc (Nat.le_refl _) _
    have hz7 : w7.heap.size = w6.heap.size + 1 := by rw [hw7, World.size_alloc]
    have h7 : w7.heap[w6.heap.size]? = some (.cells #[.slice ab2 L.buns.length cb2, .slice at2 L.tras.length ct2, .slice ac2 L.cons.length cc2] 39 (0, 0)) := by rw [hw7]; exact alloc_new w6 _
    have hb57 : Below w5.heap.size w5 w7 := hb6.trans (hb67.mono hb6.size)
    obtain ⟨T2, hT2⟩ : ∃ T, T = w6.heap.size := ⟨_, rfl⟩
    have o7 := o6.below hb67
    have q7 : OwnsX 51 2 conCell (fun c : Con => c.ts) w7 W2.heap.size (.slice ac2 L.cons.length cc2) L.cons := q6.below hb67
    have e7 : ∀ k, B1 ≤ k → k < W2.heap.size → w7.heap[k]? = W2.heap[k]? := fun k h1 h2 => (hb67.block k (by omega)).trans (e6 k h1 h2)
    rw [← hT2] at h7 hz7 ⊢
    have htp : 0 < L.tras.length := by
      have h1 : ((L.tras.map (fun t => t.bs)).flatten).length = L.buns.length := HH.out.ok.tras.once.all
      cases hb : L.tras with
      | nil => rw [hb] at h1; simp at h1; omega
      | cons _ _ => simp
    have htne : ∀ t ∈ L.tras, 1 ≤ t.bs.length := fun t ht => (HH.out.ok.tras.once.lens _ (List.mem_map.2 ⟨t, ht, rfl⟩)).1
    obtain ⟨gT, ad, cp', rfl, hgT1, hgT2, hTS, had, hTur, hap⟩ := tur_start p6 htp htne (flat_bs2 HH.out.ok.tras.once) e7 (by omega) L.buns.length
    obtain ⟨gB, s2, curB, rfl, hgB, hgB7, hszB, _, _⟩ := OwnsX.open (n := 4) (cf := bunCell) (fun _ => rfl) o7 hbp
    have hob := HOB.out
    obtain ⟨gL, sL, curL, rfl, hgLb, hgL5, hszL, hcL, hrL⟩ := OwnsX.open (n := 4) (cf := bunCell) (fun _ => rfl) hob hbp
    have hgLl := (Array.getElem?_eq_some_iff.1 hgL5).1
    have hRev : Rev w7 w7 gB L.buns.length 0 (fun q => bunCell (L.buns.getD q ⟨0, noB, [], 0⟩, sL q)) := ⟨rfl, rfl, rfl, rfl, fun _ _ => rfl, curB, hgB7, hszB, fun q hq => absurd hq (Nat.not_lt_zero _)⟩
    have hgLB : gL ≠ gB := by omega
    have hTB : T ≠ gB := type_ne (hb57.block _ hTl ▸ HT5.out : w7.heap[T]? = _) hgB7 (by decide)
    have hT2B : T2 ≠ gB := type_ne h7 hgB7 (by decide)
    have hTl7 : T < w7.heap.size := Nat.lt_of_lt_of_le hTl hb57.size
    -- what stays while the bundles of the copy are turned
    have HST : Hid (∀ W : World, (∀ k, k ≠ gB → W.heap[k]? = w7.heap[k]?) → (W.cell? ⟨T, 0, none⟩ = some (.slice (some ⟨gL, 0, none⟩) L.buns.length cb)) ∧ (W.cell? ⟨T2, 0, none⟩ = some (.slice (some ⟨gB, 0, none⟩) L.buns.length cb2) ∧ W.cell? ⟨T2, 1, none⟩ = some (.slice (some ⟨gT, 0, none⟩) L.tras.length ct2) ∧ W.cell? ⟨T2, 2, none⟩ = some (.slice ac2 L.cons.length cc2)) ∧
        ∀ q (hq : q < L.buns.length), W.cell? ⟨gL, q * 4, none⟩ = some (.int .i64 L.buns[q].lvl) ∧ W.cell? ⟨gL, q * 4 + 1, none⟩ = some (.string L.buns[q].grp) ∧ W.cell? ⟨gL, q * 4 + 2, none⟩ = some (sL q) ∧ W.cell? ⟨gL, q * 4 + 3, none⟩ = some (.int .i64 L.buns[q].grams)) := fun W hW => by
      refine ⟨(cells3 ((hW T hTB).trans ((hb57.block _ hTl).trans HT5.out))).1, cells3 ((hW T2 hT2B).trans h7), fun q hq => ?_⟩
      have hk := (hW gL hgLB).trans ((hb57.block _ hgLl).trans hgL5)
      refine ⟨?_, ?_, ?_, ?_⟩
      · rw [cell_of_row _ _ _ _ _ _ hk]; exact hcL q hq 0 _ rfl
      · rw [cell_of_row _ _ _ _ _ _ hk]; exact hcL q hq 1 _ rfl
      · rw [cell_of_row _ _ _ _ _ _ hk]; exact hcL q hq 2 _ rfl
      · rw [cell_of_row _ _ _ _ _ _ hk]; exact hcL q hq 3 _ rfl
    have HS1 : Hid (∀ q, q < L.buns.length → ∃ a c, sL q = .slice a (L.buns.getD q ⟨0, noB, [], 0⟩).ids.length c) := fun q hq => by
      obtain ⟨a, c, e⟩ := (hrL q hq).len
      refine ⟨a, c, ?_⟩
      rw [e, List.getD_eq_getElem?_getD, List.getElem?_eq_getElem hq]; rfl
    have HRV := Lib.hid hRev
    have HB57 := Lib.hid hb57
    have HAP := Lib.hid hap
    have HTUR := Lib.hid hTur
    have HTS := Lib.hid hTS
    have HAD := Lib.hid had
    have HGB7 := Lib.hid hgB7
    have HGL5 := Lib.hid hgL5
    have HCL5 := Lib.hid hcL
    have HRL5 := Lib.hid hrL
    have HQ7 := Lib.hid q7
    have H7 := Lib.hid h7
    have HNE := Lib.hid (And.intro hgLB (And.intro hTB hT2B))
    have HBD := Lib.hid (And.intro hgT1 (And.intro hgT2 (And.intro hB1 (And.intro z6 (And.intro hz7 (And.intro hgB (And.intro hgLl hTl7)))))))
    have HN1 : L.buns.length ≤ 100000 := HSM.out.b
    have HN2 : L.tras.length ≤ 100000 := HSM.out.t
    clear hw7 hb67 hz7 h7 hb57 hT2 o7 q7 e7 htne o6 p6 e6 q6 hb6 hTS had hTur hap hgB7 hgL5 hcL hrL hob hgLB hTB hT2B hTl7 hgT1 hgT2 hB1 z6 hgB hgLl hRev hszB hszL HCL t0 t1 t2 m0 m1 m2 m3 y0 y1 y2 y3
    obtain ⟨t0, ⟨c0, c1, c2⟩, _⟩ := HST.out w7 (fun _ _ => rfl)
    go_wp2_with fail
    clear t0 c0 c1 c2
    go_loopw [92] (fun i wx => ∃ q : Nat, q ≤ L.buns.length ∧ i = .int .i64 q ∧ Rev w7 wx gB L.buns.length q (fun q => bunCell (L.buns.getD q ⟨0, noB, [], 0⟩, sL q))) (fun i _ => L.buns.length - (intOf i).toNat)
    case atStart => exact ⟨0, Nat.zero_le _, rfl, HRV.out⟩
    case round =>
      obtain ⟨wo, hwo⟩ : ∃ x, x = wr := ⟨_, rfl⟩
      subst hwo
      obtain ⟨q, hq, rfl, hrv⟩ := hrel
      have HRQ := Lib.hid hrv
      by_cases hlt : q < L.buns.length
      · obtain ⟨t0, ⟨c0, c1, c2⟩, hbc⟩ := HST.out wo hrv.other
        obtain ⟨m, hm⟩ : ∃ m, m = L.buns.length - 1 - q := ⟨_, rfl⟩
        have hml : m < L.buns.length := by omega
        obtain ⟨e0, e1, e2, e3⟩ := hbc m hml
        have hgd : L.buns.getD m ⟨0, noB, [], 0⟩ = L.buns[m] := by rw [List.getD_eq_getElem?_getD, List.getElem?_eq_getElem hml]; rfl
        obtain ⟨as1, cs1, hs1⟩ := HS1.out m hml
        rw [hs1, hgd] at e2
        have HFM : Hid (bunCell (L.buns.getD (L.buns.length - 1 - q) ⟨0, noB, [], 0⟩, sL (L.buns.length - 1 - q)) = [.int .i64 L.buns[m].lvl, .string L.buns[m].grp, .slice as1 L.buns[m].ids.length cs1, .int .i64 L.buns[m].grams]) := by
          show _ = _
          rw [← hm, hs1, hgd]; rfl
        obtain ⟨bm, hbm⟩ : ∃ b, b = L.buns[m] := ⟨_, rfl⟩
        rw [← hbm] at e0 e1 e2 e3 HFM
        have hw1 : IntKind.i64.wrap ((L.buns.length : Int) - 1 - (q : Int)) = (m : Int) := by rw [IntWalk.i64_in _ (by omega)]; omega
        obtain ⟨cur, k1, k2, _⟩ := hrv.row
        obtain ⟨u0, d0⟩ := cell_ex k1 (o := q * 4) (by omega)
        obtain ⟨u1, d1⟩ := cell_ex k1 (o := q * 4 + 1) (by omega)
        obtain ⟨u2, d2⟩ := cell_ex k1 (o := q * 4 + 2) (by omega)
        obtain ⟨u3, d3⟩ := cell_ex k1 (o := q * 4 + 3) (by omega)
        have f0 := row_free k1 (i := q * 4)
        have f1 := row_free k1 (i := q * 4 + 1)
        have f2 := row_free k1 (i := q * 4 + 2)
        have f3 := row_free k1 (i := q * 4 + 3)
        clear hm hs1 hgd hbm k1 k2 hrv hbc
        go_upto_region 14 with fail
        go_region
        go_wp2_with fail
        go_roundw
        case rel => exact ⟨q + 1, by omega, by go_num, (HRQ.out.step (fun _ => rfl) hlt HFM.out).drew⟩
        case measure => simp [intOf]; omega
      · obtain rfl : q = L.buns.length := by omega
        obtain ⟨w8, hw8⟩ : ∃ x, x = wo := ⟨_, rfl⟩
        subst hw8
        obtain ⟨hgT1, hgT2, hB1, hz6, hz7, hgB, hgLl, hTl7⟩ := HBD.out
        have hgTB : gT ≠ gB := type_ne HTS.out.type.choose_spec HGB7.out (by decide)
        have hadB : ∀ i, i < L.tras.length → (ad i).1 ≠ gB := fun i hi => by
          obtain ⟨cur, h1, _⟩ := HTUR.out.rows i hi
          exact type_ne h1 HGB7.out (by decide)
        have hT8 : TraySt w8 gT ad cp' L.tras := HTS.out.kept (hrv.other gT hgTB)
        have hU8 : Tur w8 w8 L.tras.length ad (traLen L.tras) (turV L.buns.length 0 0 L.tras) := HTUR.out.rebase (fun i hi => hrv.other _ (hadB i hi))
        have hadT : ∀ i, i < L.tras.length → gT ≠ (ad i).1 := fun i hi => by
          obtain ⟨cur, h1, _⟩ := hU8.rows i hi
          exact type_ne hT8.type.choose_spec h1 (by decide)
        have hadT2 : ∀ i, i < L.tras.length → T2 ≠ (ad i).1 := fun i hi => by
          obtain ⟨cur, h1, _⟩ := HTUR.out.rows i hi
          exact type_ne H7.out h1 (by decide)
        obtain ⟨t0, ⟨c0, c1, c2⟩, _⟩ := HST.out w8 hrv.other
        have HST8 : Hid (∀ W : World, (∀ k, (∀ i, i < L.tras.length → k ≠ (ad i).1) → W.heap[k]? = w8.heap[k]?) → (W.cell? ⟨T2, 0, none⟩ = some (.slice (some ⟨gB, 0, none⟩) L.buns.length cb2) ∧ W.cell? ⟨T2, 1, none⟩ = some (.slice (some ⟨gT, 0, none⟩) L.tras.length ct2) ∧ W.cell? ⟨T2, 2, none⟩ = some (.slice ac2 L.cons.length cc2)) ∧ TraySt W gT ad cp' L.tras) := fun W hW => by
          have hk := (hW T2 hadT2).trans ((hrv.other T2 HNE.out.2.2).trans H7.out)
          exact ⟨cells3 hk, hT8.kept (hW gT hadT)⟩
        have HU8 := Lib.hid hU8
        have HRV8 := Lib.hid hrv
        have HADB := Lib.hid hadB
        clear hrv hT8 hU8 hadT hadT2 hgTB hadB hgT1 hgT2 hB1 hz6 hz7 hgB hgLl hTl7 hlt hq HRQ t0 c0 c2
        go_wp2_with fail
        clear c1
        go_loopw [110] (fun i wx => ∃ q : Nat, q ≤ L.tras.length ∧ i = .int .i64 q ∧ Tur w8 wx L.tras.length ad (traLen L.tras) (turV L.buns.length q 0 L.tras)) (fun i _ => L.tras.length - (intOf i).toNat)
        case atStart => exact ⟨0, Nat.zero_le _, rfl, HU8.out⟩
        case round =>
          obtain ⟨wo, hwo⟩ : ∃ x, x = wr := ⟨_, rfl⟩
          subst hwo
          obtain ⟨q, hq, rfl, htu⟩ := hrel
          have HTQ := Lib.hid htu
          by_cases hlt : q < L.tras.length
          · obtain ⟨⟨c0, c1, c2⟩, hts⟩ := HST8.out wo htu.other
            obtain ⟨e0, e1, e2⟩ := hts.cells q hlt
            have hnl : traLen L.tras q = L.tras[q].bs.length := by unfold traLen; rw [tra_get hlt]
            obtain ⟨nq, hnq⟩ : ∃ z, z = L.tras[q].bs.length := ⟨_, rfl⟩
            rw [← hnq] at e2 hnl
            have HNQ := Lib.hid hnl
            have hnq2 : nq ≤ 100000 := by rw [hnq]; exact part_le HSM.out.ti _ (List.getElem_mem hlt)
            clear hnq hnl hts htu c0 c2
            obtain ⟨ga, hga⟩ : ∃ z, z = (ad q).1 := ⟨_, rfl⟩
            obtain ⟨oa, hoa⟩ : ∃ z, z = (ad q).2 := ⟨_, rfl⟩
            rw [← hga, ← hoa] at e2
            have HGA := Lib.hid hga
            have HOA := Lib.hid hoa
            clear hga hoa
            go_wp2_with fail
            clear c1 e0 e1 e2
            go_loopw [120] (fun i wx => ∃ p : Nat, p ≤ nq ∧ i = .int .i64 p ∧ Tur w8 wx L.tras.length ad (traLen L.tras) (turV L.buns.length q p L.tras)) (fun i _ => nq - (intOf i).toNat)
            case atStart => exact ⟨0, Nat.zero_le _, rfl, HTQ.out⟩
            case round =>
              obtain ⟨wi, hwi⟩ : ∃ x, x = wr := ⟨_, rfl⟩
              subst hwi
              obtain ⟨p, hp, rfl, htu⟩ := hrel
              have HTP := Lib.hid htu
              by_cases hlp : p < nq
              · obtain ⟨⟨c0, c1, c2⟩, hts⟩ := HST8.out wi htu.other
                obtain ⟨e0, e1, e2⟩ := hts.cells q hlt
                have hnl := HNQ.out
                have hplen : p < traLen L.tras q := by rw [hnl]; exact hlp
                have hlen2 : L.tras[q].bs.length = nq := by rw [← hnl]; unfold traLen; rw [tra_get hlt]
                obtain ⟨v0, v1, v2⟩ := htu.cell hlt hplen
                obtain ⟨x1, x2, x3⟩ := turV_succ (n := L.buns.length) (i0 := q) (p0 := p) (ts := L.tras)
                have hst := htu.step HAP.out hlt hplen x1 x3
                rw [x2] at v0
                have hxm : (L.tras.getD q ⟨0, noB, []⟩).bs.getD p 0 ∈ (L.tras.map (fun t => t.bs)).flatten := by
                  rw [tra_get hlt, List.getD_eq_getElem?_getD, List.getElem?_eq_getElem (by omega)]
                  exact List.mem_flatten.2 ⟨_, List.mem_map.2 ⟨_, List.getElem_mem hlt, rfl⟩, List.getElem_mem _⟩
                have hxi := HH.out.ok.tras.once.ins _ hxm
                obtain ⟨x, hx⟩ : ∃ z, z = (L.tras.getD q ⟨0, noB, []⟩).bs.getD p 0 := ⟨_, rfl⟩
                rw [← hx] at v0 hst hxi
                rw [hlen2] at e2
                rw [← HGA.out, ← HOA.out] at e2 v0 v1 hst
                rw [← HGA.out] at v2
                unfold backI at hst
                have HSTP := Lib.hid hst
                have hw1 : IntKind.i64.wrap ((L.buns.length : Int) - 1 - x) = (L.buns.length : Int) - 1 - x := IntWalk.i64_in _ (by omega)
                clear x1 x2 x3 hst hxm hx hlen2 hplen hnl htu hts c0 c2
                obtain ⟨wz, hwz⟩ : ∃ x, x = wi := ⟨_, rfl⟩
                go_upto_region 22 with fail
                go_region
                go_wp2_with fail
                go_roundw
                case rel => exact ⟨p + 1, by omega, by go_num, HSTP.out.drew⟩
                case measure => simp [intOf]; omega
              · obtain rfl : p = nq := by omega
                have hnx : Tur w8 wi L.tras.length ad (traLen L.tras) (turV L.buns.length (q + 1) 0 L.tras) := htu.congr (fun i' p' hi' hp' => by
                  have h1 := HNQ.out
                  unfold traLen at h1 hp'
                  rw [turV_next hi' hp', h1])
                have HNX := Lib.hid hnx
                clear htu hnx
                go_wp2_with fail
                go_roundw
                case rel => exact ⟨q + 1, by omega, by go_num, HNX.out⟩
                case measure => simp [intOf]; omega
          · obtain rfl : q = L.tras.length := by omega
            obtain ⟨w9, hw9⟩ : ∃ x, x = wo := ⟨_, rfl⟩
            subst hw9
            obtain ⟨hgT1, hgT2, hB1, hz6, hz7, hgB, hgLl, hTl7⟩ := HBD.out
            obtain ⟨⟨c0, c1, c2⟩, hts⟩ := HST8.out w9 htu.other
            have hb59 : Below w5.heap.size w5 w9 := (HB57.out.trans (HRV8.out.below hgB)).trans (htu.below (fun i hi => by have := (HAD.out i hi).1; omega))
            have hbk : w9.heap[gB]? = w8.heap[gB]? := htu.other gB (fun i hi e => HADB.out i hi e.symm)
            have hgBW : ∀ k, W2.heap.size ≤ k → k < w7.heap.size → w9.heap[k]? = w7.heap[k]? ∨ k = gB := fun k h1 h2 => by
              by_cases e : k = gB
              · exact .inr e
              · exact .inl ((htu.other k (fun i hi e => by have := (HAD.out i hi).2; omega)).trans (HRV8.out.other k e))
            have hcon : OwnsX 51 2 conCell (fun c : Con => c.ts) w9 W2.heap.size (.slice ac2 L.cons.length cc2) L.cons := by
              obtain ⟨Lc, hL, h1, h2, h3⟩ := HQ7.out
              refine ⟨Lc, hL, fun p hp => ?_, h2, ?_⟩
              · obtain ⟨a, cap, hv, hc⟩ := h1 p hp
                refine ⟨a, cap, hv, fun h0 => ?_⟩
                obtain ⟨g, off, cur, ha, hb, hh, hcc⟩ := hc h0
                rcases hgBW g hb (Array.getElem?_eq_some_iff.1 hh).1 with e | e
                · exact ⟨g, off, cur, ha, hb, e.trans hh, hcc⟩
                · exact absurd e (type_ne hh HGB7.out (by decide))
              · rcases h3 with h3 | ⟨g, cap, cur, hv, hb, hg, hr⟩
                · exact .inl h3
                · rcases hgBW g hb (Array.getElem?_eq_some_iff.1 hg).1 with e | e
                  · exact .inr ⟨g, cap, cur, hv, hb, e.trans hg, hr⟩
                  · exact absurd e (type_ne hg HGB7.out (by decide))
            have hbl : RdLod w9 (.slice (some ⟨gB, 0, none⟩) L.buns.length cb2) (.slice (some ⟨gT, 0, none⟩) L.tras.length ct2) (.slice ac2 L.cons.length cc2) (backL L) := ⟨rev_end HRV8.out rfl rfl hbk (fun q hq => ((HRL5.out q hq).rd).below hb59), tur_end hts htu rfl, hcon.rd (fun _ => rfl)⟩
            have hsb : SmallL (backL L) := ⟨by show L.buns.reverse.length ≤ _; rw [List.length_reverse]; exact HSM.out.b, by show (L.tras.map _).length ≤ _; rw [List.length_map]; exact HSM.out.t, HSM.out.c, by show (L.buns.reverse.flatMap _).length ≤ _; rw [((List.reverse_perm _).flatMap_right _).length_eq]; exact HSM.out.bi, by
              have e : ((backL L).tras.flatMap (fun t => t.bs)).length = (L.tras.flatMap (fun t => t.bs)).length := by
                show ((L.tras.map (backT L.buns.length)).flatMap (fun t => t.bs)).length = _
                rw [List.flatMap_map, List.length_flatMap, List.length_flatMap]
                congr 1
                refine List.map_congr_left (fun t _ => ?_)
                show (t.bs.map _).length = _
                rw [List.length_map]
              rw [e]; exact HSM.out.ti, HSM.out.ci⟩
            have hib : ∀ b ∈ (backL L).buns, ∀ i ∈ b.ids, 0 ≤ i ∧ i ≤ 999999 := fun b hb i hi => by
              have := (HH.out.own b (List.mem_reverse.1 hb)).2.2 i hi
              omega
            have HB59 := Lib.hid hb59
            have HX9 := HX3.out w9 (HB5.out.trans (hb59.mono HB5.out.size))
            obtain ⟨hl9, hp9, hz9, ⟨m0, m1, m2, m3⟩, ⟨y0, y1, y2, y3⟩, hMl9⟩ := HX9
            have HCB := Lib.hid (HCH.out w9 _ _ _ _ _ _ _ hl9 hp9 hz9 hbl hsb hib)
            have hok : LodOk ⟨kp, kg, kb, kt⟩ (mail24 l).ps zs ns (backL L) := back_ok HH.out.ok
            have HOK := Lib.hid hok
            clear hok hbl hsb hib hcon hgBW hbk hb59 hts htu hgT1 hgT2 hB1 hz6 hz7 hgB hgLl hTl7 hlt hq hl9 hp9 hz9
            go_upto_region 26 with (go_at_call 13; refine HCB.out.mono ?_; rintro e w10 ⟨u, rfl, hb10, hu⟩; obtain rfl := hu.true HOK.out)
            have hb510 : Below w5.heap.size w5 w10 := HB59.out.trans (hb10.mono HB59.out.size)
            clear c0 c1 c2 m0 m1 m2 m3 y0 y1 y2 y3 hMl9 hu hb10
            obtain ⟨i, hi⟩ : ∃ i, i = ca.toNat % l.length := ⟨_, rfl⟩
            obtain ⟨j, hj⟩ : ∃ j, j = cb'.toNat % l.length := ⟨_, rfl⟩
            have hil : i < l.length := by rw [hi]; exact Nat.mod_lt _ hlp
            have hjl : j < l.length := by rw [hj]; exact Nat.mod_lt _ hlp
            have hmi : (ca.toNat : Int).tmod (l.length : Int) = (i : Int) := by rw [Int.tmod_eq_emod_of_nonneg (Int.natCast_nonneg _), hi]; rfl
            have hmj : (cb'.toNat : Int).tmod (l.length : Int) = (j : Int) := by rw [Int.tmod_eq_emod_of_nonneg (Int.natCast_nonneg _), hj]; rfl
            have hca : ca.toNat < 256 := ca.toNat_lt
            have hcb : cb'.toNat < 256 := cb'.toNat_lt
            clear hi hj
            obtain ⟨_, hp10, _, ⟨m0, m1, m2, m3⟩, _, _⟩ := HX3.out w10 (HB5.out.trans (hb510.mono HB5.out.size))
            go_upto_region 28 with fail
            go_quiet (fail)
            obtain ⟨w11, hw11⟩ : ∃ x, x = w10.drewN nq := ⟨_, rfl⟩
            rw [← hw11]
            have hb511 : Below w5.heap.size w5 w11 := hb510.trans (by rw [hw11]; exact below_drewN (Below.refl _ _) _)
            clear hw11 m0 m1 m2 m3 hmi hmj hp10 hb510 hca hcb
            have hrp : RdPces w3 (.slice ap l.length cp) (mail24 l).ps := (HX3.out w3 (Below.refl _ _)).2.1
            obtain ⟨gp, op, rfl, hgp, hpat⟩ := hrp.atN (by rw [HPN.out]; exact hlp)
            have hpi := hpat i (by rw [HPN.out]; exact hil)
            have hpj := hpat j (by rw [HPN.out]; exact hjl)
            obtain ⟨c, ti, ci, hcl, hti, hci, hwhi, hclv, hcgr, zi1, zi2, hcm⟩ := where_ok HU.out HH.out.ok (show i < (mail24 l).ps.length by rw [HPN.out]; exact hil)
            obtain ⟨d, tj, cj, hdl, htj, hcj, hwhj, hdlv, hdgr, zj1, zj2, hdm⟩ := where_ok HU.out HH.out.ok (show j < (mail24 l).ps.length by rw [HPN.out]; exact hjl)
            have hgi := HIDG.out _ (pcAt_memN (ps := (mail24 l).ps) (i := (i : Int)) (by rw [Int.toNat_natCast, HPN.out]; exact hil))
            have hgj := HIDG.out _ (pcAt_memN (ps := (mail24 l).ps) (i := (j : Int)) (by rw [Int.toNat_natCast, HPN.out]; exact hjl))
            have hpei : pcAt (mail24 l).ps (i : Int) = (mail24 l).ps[i]'(by rw [HPN.out]; exact hil) := pcAt_nat _
            have hpej : pcAt (mail24 l).ps (j : Int) = (mail24 l).ps[j]'(by rw [HPN.out]; exact hjl) := pcAt_nat _
            rw [← hpei] at hwhi hcm
            rw [← hpej] at hwhj hdm
            have hsb := fun (hne : L.buns[c].lvl ≠ L.buns[d].lvl ∨ L.buns[c].grp ≠ L.buns[d].grp) (L' : Lod) (b' : Bun) (hb' : b' ∈ L'.buns) (e1 : b'.lvl = L.buns[c].lvl) (e2 : b'.grp = L.buns[c].grp) (e3 : (pcAt (mail24 l).ps (j : Int)).id ∈ b'.ids) => swap_bad2 (k := ⟨kp, kg, kb, kt⟩) (L' := L') HU.out (show j < (mail24 l).ps.length by rw [HPN.out]; exact hjl) hdlv hdgr (lc := L.buns[c].lvl) (gc := L.buns[c].grp) hne hb' e1 e2 (by rw [← hpej]; exact e3)
            have HSB := Lib.hid hsb
            have hnij : (L.buns[c].lvl ≠ L.buns[d].lvl ∨ L.buns[c].grp ≠ L.buns[d].grp) → (pcAt (mail24 l).ps (i : Int)).id ≠ (pcAt (mail24 l).ps (j : Int)).id := fun hne e => by
              have := id_at HU.out (show j < (mail24 l).ps.length by rw [HPN.out]; exact hjl) (j := (i : Int)) (by rw [Int.toNat_natCast, HPN.out]; omega) (by rw [e, hpej])
              obtain rfl : i = j := by omega
              rw [hwhi] at hwhj
              injection hwhj with h1 _
              obtain rfl : c = d := by omega
              rcases hne with h | h <;> exact h rfl
            have HNIJ := Lib.hid hnij
            obtain ⟨pi, hpi0⟩ : ∃ p, p = pcAt (mail24 l).ps (i : Int) := ⟨_, rfl⟩
            obtain ⟨pj, hpj0⟩ : ∃ p, p = pcAt (mail24 l).ps (j : Int) := ⟨_, rfl⟩
            rw [← hpi0] at hpi hwhi hcm hgi HNIJ
            rw [← hpj0] at hpj hwhj hdm hgj HSB HNIJ
            have HWI : Hid (∀ W vb vt vc, RdLod W vb vt vc L → Calls Tryz.prog 14 #[.agg #[vb, vt, vc], .int .i64 pi.id] W fun e w' => e = .returned (.tuple #[.int .i64 c, .int .i64 ti, .int .i64 ci, .bool true]) ∧ Below W.heap.size W w') := by
              intro W vb vt vc hr
              have := where_any L pi.id vb vt vc W hr HSM.out
              rw [hwhi] at this
              exact this
            have HWJ : Hid (∀ W vb vt vc, RdLod W vb vt vc L → Calls Tryz.prog 14 #[.agg #[vb, vt, vc], .int .i64 pj.id] W fun e w' => e = .returned (.tuple #[.int .i64 d, .int .i64 tj, .int .i64 cj, .bool true]) ∧ Below W.heap.size W w') := by
              intro W vb vt vc hr
              have := where_any L pj.id vb vt vc W hr HSM.out
              rw [hwhj] at this
              exact this
            have HPX : Hid (∀ W, Below w3.heap.size w3 W → (W.cell? ⟨gp, op + i * 5, none⟩ = some (.int .i64 pi.id) ∧ W.cell? ⟨gp, op + j * 5, none⟩ = some (.int .i64 pj.id)) ∧ (W.cell? ⟨gp, op + i * 5 + 3, none⟩ = some (.int .i64 pi.grams) ∧ W.cell? ⟨gp, op + j * 5 + 3, none⟩ = some (.int .i64 pj.grams)) ∧ W.cell? ⟨M, 3, none⟩ = some (.slice (some ⟨gp, op, none⟩) l.length cp)) := fun W hW => by
              obtain ⟨a0, _, _, a3, _⟩ := hpi.below hW hgp
              obtain ⟨b0, _, _, b3, _⟩ := hpj.below hW hgp
              obtain ⟨_, _, _, ⟨_, _, _, k3⟩, _, _⟩ := HX3.out W hW
              exact ⟨⟨a0, b0⟩, ⟨a3, b3⟩, k3⟩
            have H35 : Hid (∀ W, Below w5.heap.size w5 W → Below w3.heap.size w3 W) := fun W hW => HB5.out.trans (hW.mono HB5.out.size)
            clear hpat hpi hpj hwhi hwhj hpei hpej hpi0 hpj0 hsb hnij zi1 zi2 zj1 zj2 hti hci htj hcj
            have C1 := Lib.hid (fun W (hW : Below w11.heap.size w11 W) => HWI.out W _ _ _ (HR.out.below (hb511.trans (hW.mono hb511.size))))
            obtain ⟨⟨a0, b0⟩, _, k3⟩ := HPX.out w11 (H35.out _ hb511)
            obtain ⟨t0, t1, t2⟩ := HTC.out w11 hb511
            have q0 := cells_in4 t0
            have q1 := cells_in4 t1
            have q2 := cells_in4 t2
            have q3 := cells_in4 a0
            have q4 := cells_in4 k3
            clear t0 t1 t2 a0 b0 k3
            go_upto_region 29 with fail
            refine wp_region_quiet_below (by kernel_rfl) (by kernel_rfl) ?_
            repeat (go_big_quiet_step ((first | (with_reducible exact regrown_in4 C1.out _))))
            refine wpQuiet_nil ?_
            intro _ hw'
            obtain ⟨pp, hw''⟩ := hw'
            subst hw''
            obtain ⟨w12, hw12⟩ : ∃ x, x = grow (redrawn w11 pp.d) pp.os := ⟨_, rfl⟩
            rw [← hw12]
            have hb512 : Below w5.heap.size w5 w12 := hb511.trans ((by rw [hw12]; exact below_in4 _ _ : Below w11.heap.size w11 w12).mono hb511.size)
            clear hw12 q0 q1 q2 q3 q4 C1 hb511
            have C1 := Lib.hid (fun W (hW : Below w12.heap.size w12 W) => HWJ.out W _ _ _ (HR.out.below (hb512.trans (hW.mono hb512.size))))
            obtain ⟨⟨a0, b0⟩, _, k3⟩ := HPX.out w12 (H35.out _ hb512)
            obtain ⟨t0, t1, t2⟩ := HTC.out w12 hb512
            have q0 := cells_in4 t0
            have q1 := cells_in4 t1
            have q2 := cells_in4 t2
            have q3 := cells_in4 b0
            have q4 := cells_in4 k3
            clear t0 t1 t2 a0 b0 k3
            go_upto_region 30 with fail
            refine wp_region_quiet_below (by kernel_rfl) (by kernel_rfl) ?_
            repeat (go_big_quiet_step ((first | (with_reducible exact regrown_in4 C1.out _))))
            refine wpQuiet_nil ?_
            intro _ hw'
            obtain ⟨pp2, hw''⟩ := hw'
            subst hw''
            obtain ⟨w13, hw13⟩ : ∃ x, x = grow (redrawn w12 pp2.d) pp2.os := ⟨_, rfl⟩
            rw [← hw13]
            have hb513 : Below w5.heap.size w5 w13 := hb512.trans ((by rw [hw13]; exact below_in4 _ _ : Below w12.heap.size w12 w13).mono hb512.size)
            clear hw13 q0 q1 q2 q3 q4 C1 hb512
            obtain ⟨t0, t1, t2⟩ := HTC.out w13 hb513
            go_upto_region 31 with fail
            go_quiet (fail)
            obtain ⟨w14, hw14⟩ : ∃ x, x = w13.drewN nq := ⟨_, rfl⟩
            rw [← hw14]
            have hb514 : Below w5.heap.size w5 w14 := hb513.trans (by rw [hw14]; exact below_drewN (Below.refl _ _) _)
            clear hw14 t0 t1 t2 hb513
            -- the two bundles
            have hIc := HRL5.out c hcl
            have hId := HRL5.out d hdl
            have hc1 : 0 < L.buns[c].ids.length := List.length_pos_of_mem hcm
            have hd1 : 0 < L.buns[d].ids.length := List.length_pos_of_mem hdm
            obtain ⟨g1, o1, k1, r1, hs1, hg1, hr1, hx1⟩ := hIc.open hc1
            obtain ⟨g2, o2, k2, r2, hs2, hg2, hr2, hx2⟩ := hId.open hd1
            have hgL1 : gL ≠ g1 := type_ne HGL5.out hr1 (by decide)
            have hgL2 : gL ≠ g2 := type_ne HGL5.out hr2 (by decide)
            have hl1 := (Array.getElem?_eq_some_iff.1 hr1).1
            have hl2 := (Array.getElem?_eq_some_iff.1 hr2).1
            have hgLl := HBD.out.2.2.2.2.2.2.1
            have HBU : Hid (∀ W, Below w5.heap.size w5 W → (W.cell? ⟨gL, c * 4, none⟩ = some (.int .i64 L.buns[c].lvl) ∧ W.cell? ⟨gL, c * 4 + 1, none⟩ = some (.string L.buns[c].grp) ∧ W.cell? ⟨gL, c * 4 + 2, none⟩ = some (.slice (some ⟨g1, o1, none⟩) L.buns[c].ids.length k1) ∧ W.cell? ⟨gL, c * 4 + 3, none⟩ = some (.int .i64 L.buns[c].grams)) ∧
                (W.cell? ⟨gL, d * 4, none⟩ = some (.int .i64 L.buns[d].lvl) ∧ W.cell? ⟨gL, d * 4 + 1, none⟩ = some (.string L.buns[d].grp) ∧ W.cell? ⟨gL, d * 4 + 2, none⟩ = some (.slice (some ⟨g2, o2, none⟩) L.buns[d].ids.length k2) ∧ W.cell? ⟨gL, d * 4 + 3, none⟩ = some (.int .i64 L.buns[d].grams)) ∧
                (∀ f (hf : f < L.buns[c].ids.length), W.cell? ⟨g1, o1 + f, none⟩ = some (.int .i64 L.buns[c].ids[f])) ∧ (∀ f (hf : f < L.buns[d].ids.length), W.cell? ⟨g2, o2 + f, none⟩ = some (.int .i64 L.buns[d].ids[f])) ∧ gL < W.heap.size ∧ g1 < W.heap.size ∧ g2 < W.heap.size) := fun W hW => by
              have hk := (hW.block _ hgLl).trans HGL5.out
              have hz := hW.size
              have e1 := HCL5.out c hcl
              have e2 := HCL5.out d hdl
              rw [hs1] at e1
              rw [hs2] at e2
              refine ⟨⟨?_, ?_, ?_, ?_⟩, ⟨?_, ?_, ?_, ?_⟩, fun f hf => ?_, fun f hf => ?_, by omega, by omega, by omega⟩
              · rw [cell_of_row _ _ _ _ _ _ hk]; exact e1 0 _ rfl
              · rw [cell_of_row _ _ _ _ _ _ hk]; exact e1 1 _ rfl
              · rw [cell_of_row _ _ _ _ _ _ hk]; exact e1 2 _ rfl
              · rw [cell_of_row _ _ _ _ _ _ hk]; exact e1 3 _ rfl
              · rw [cell_of_row _ _ _ _ _ _ hk]; exact e2 0 _ rfl
              · rw [cell_of_row _ _ _ _ _ _ hk]; exact e2 1 _ rfl
              · rw [cell_of_row _ _ _ _ _ _ hk]; exact e2 2 _ rfl
              · rw [cell_of_row _ _ _ _ _ _ hk]; exact e2 3 _ rfl
              · rw [cell_of_row _ _ _ _ _ _ ((hW.block _ hl1).trans hr1)]; exact hx1 f hf
              · rw [cell_of_row _ _ _ _ _ _ ((hW.block _ hl2).trans hr2)]; exact hx2 f hf
            have HG12 := Lib.hid (And.intro hgL1 hgL2)
            have HGG := Lib.hid (And.intro hg1 (And.intro hg2 hgLb))
            clear hgLb
            have HR1 := Lib.hid hr1
            have HR2 := Lib.hid hr2
            have HS12 := Lib.hid (And.intro hs1 hs2)
            have HCM := Lib.hid hcm
            have HDM := Lib.hid hdm
            have HCX := Lib.hid (And.intro hcl hdl)
            obtain ⟨bc, hbc⟩ : ∃ b, b = L.buns[c] := ⟨_, rfl⟩
            obtain ⟨bd, hbd⟩ : ∃ b, b = L.buns[d] := ⟨_, rfl⟩
            rw [← hbc, ← hbd] at HBU
            rw [← hbc] at hc1 HCM
            rw [← hbd] at hd1 HDM
            rw [← hbc, ← hbd] at HNIJ
            have HBC := Lib.hid (And.intro hbc hbd)
            have HCL' : bc.ids.length ≤ 100000 := by rw [hbc]; exact part_le HSM.out.bi _ (List.getElem_mem hcl)
            have HDL' : bd.ids.length ≤ 100000 := by rw [hbd]; exact part_le HSM.out.bi _ (List.getElem_mem hdl)
            clear hIc hId hs1 hs2 hx1 hx2 hr1 hr2 hgL1 hgL2 hgLl hl1 hl2 hg1 hg2 hcm hdm hclv hcgr hdlv hdgr hbc hbd
            obtain ⟨⟨c0, c1, c2, c3⟩, ⟨d0, d1, d2, d3⟩, _, _, hz1, hz2, hz3⟩ := HBU.out w14 hb514
            have HB514 := Lib.hid hb514
            clear hb514
            go_upto_region 32 with fail
            go_cut [39] from 205 to 224 (fun df wx => df = .bool (decide (bc.lvl ≠ bd.lvl ∨ bc.grp ≠ bd.grp)) ∧ Below w5.heap.size w5 wx)
            case first =>
              as_aux_lemma =>
                by_cases v1 : bc.lvl = bd.lvl
                · have hb1 : (bc.lvl != bd.lvl) = false := by simp [v1]
                  by_cases v2 : bc.grp = bd.grp
                  · have hb2 : (bc.grp.toList == bd.grp.toList) = true := by rw [ba_eq]; exact decide_eq_true v2
                    have HD : Hid (decide (bc.lvl ≠ bd.lvl ∨ bc.grp ≠ bd.grp) = false) := decide_eq_false (fun h => by rcases h with h | h; exact h v1; exact h v2)
                    clear v1 v2
                    go_quiet (fail)
                    go_wp2_with fail
                    go_meet
                    exact ⟨by rw [HD.out], HB514.out.trans (below_drewN (Below.refl _ _) _)⟩
                  · have hb2 : (bc.grp.toList == bd.grp.toList) = false := by rw [ba_eq]; exact decide_eq_false v2
                    have HD : Hid (decide (bc.lvl ≠ bd.lvl ∨ bc.grp ≠ bd.grp) = true) := decide_eq_true (.inr v2)
                    clear v1 v2
                    go_quiet (fail)
                    go_wp2_with fail
                    go_meet
                    exact ⟨by rw [HD.out], HB514.out.trans (below_drewN (Below.refl _ _) _)⟩
                · have hb1 : (bc.lvl != bd.lvl) = true := by simp [v1]
                  have HD : Hid (decide (bc.lvl ≠ bd.lvl ∨ bc.grp ≠ bd.grp) = true) := decide_eq_true (.inl v1)
                  clear v1
                  go_quiet (fail)
                  go_wp2_with fail
                  go_meet
                  exact ⟨by rw [HD.out], HB514.out.trans (below_drewN (Below.refl _ _) _)⟩
            case rest =>
              as_aux_lemma =>
                obtain ⟨w15, hw15⟩ : ∃ x, x = wc := ⟨_, rfl⟩
                subst hw15
                obtain ⟨rfl, hb515⟩ := hcut
                obtain ⟨D, hD⟩ : ∃ D, D = decide (bc.lvl ≠ bd.lvl ∨ bc.grp ≠ bd.grp) := ⟨_, rfl⟩
                rw [← hD]
                have HD := Lib.hid hD
                have HB515 := Lib.hid hb515
                have HNC : Hid (bc.ids.length = bc.ids.length ∧ bd.ids.length = bd.ids.length) := ⟨rfl, rfl⟩
                clear hD c0 c1 c2 c3 d0 d1 d2 d3 hz1 hz2 hz3
                obtain ⟨⟨c0, c1, c2, c3⟩, ⟨d0, d1, d2, d3⟩, _, _, hz1, hz2, hz3⟩ := HBU.out w15 hb515
                go_wp2_with fail
                clear c0 c1 c2 c3 d0 d1 d2 d3 hz1 hz2 hz3 hb515
                go_loopw [230] (fun i wx => ∃ f : Nat, f ≤ bc.ids.length ∧ i = .int .i64 f ∧ Below w5.heap.size w5 wx ∧ (D = true → pi.id ∉ bc.ids.take f)) (fun i _ => bc.ids.length - (intOf i).toNat)
                case atStart => exact ⟨0, Nat.zero_le _, rfl, HB515.out, fun _ => by simp⟩
                case round =>
                  obtain ⟨wo, hwo⟩ : ∃ x, x = wr := ⟨_, rfl⟩
                  subst hwo
                  obtain ⟨f, hf, rfl, hB, hno⟩ := hrel
                  have HBF := Lib.hid hB
                  have HNO := Lib.hid hno
                  clear hno
                  by_cases hlt : f < bc.ids.length
                  · obtain ⟨⟨c0, c1, c2, c3⟩, ⟨d0, d1, d2, d3⟩, _, _, hz1, hz2, hz3⟩ := HBU.out wo hB
                    clear hB
                    go_wp2_with fail
                    clear c0 c1 c2 c3 d0 d1 d2 d3 hz1 hz2 hz3
                    go_loopw [238] (fun i wx => ∃ g : Nat, g ≤ bd.ids.length ∧ i = .int .i64 g ∧ Below w5.heap.size w5 wx ∧ (D = true → bc.ids.getD f 0 = pi.id → pj.id ∉ bd.ids.take g)) (fun i _ => bd.ids.length - (intOf i).toNat)
                    case atStart => exact ⟨0, Nat.zero_le _, rfl, HBF.out, fun _ _ => by simp⟩
                    case round =>
                      obtain ⟨wi, hwi⟩ : ∃ x, x = wr := ⟨_, rfl⟩
                      subst hwi
                      obtain ⟨g, hg, rfl, hB, hno⟩ := hrel
                      have HBG := Lib.hid hB
                      have HNO2 := Lib.hid hno
                      clear hno
                      by_cases hlg : g < bd.ids.length
                      · obtain ⟨⟨c0, c1, c2, c3⟩, ⟨d0, d1, d2, d3⟩, hxc, hxd, hz1, hz2, hz3⟩ := HBU.out wi hB
                        have hfl : f < bc.ids.length := hlt
                        have hgl : g < bd.ids.length := hlg
                        have x1 := hxc f hfl
                        have x2 := hxd g hgl
                        have hd1' : bc.ids.getD f 0 = bc.ids[f] := by rw [List.getD_eq_getElem?_getD, List.getElem?_eq_getElem hfl]; rfl
                        have htk : bd.ids.take (g + 1) = bd.ids.take g ++ [bd.ids[g]] := List.take_succ_eq_append_getElem hgl
                        have hXE := And.intro hd1' htk
                        obtain ⟨x, hx⟩ : ∃ x, x = bc.ids[f] := ⟨_, rfl⟩
                        obtain ⟨y, hy⟩ : ∃ y, y = bd.ids[g] := ⟨_, rfl⟩
                        rw [← hx] at x1 hd1'
                        rw [← hy] at x2 htk
                        have HX1 := Lib.hid hd1'
                        have HTK := Lib.hid htk
                        have HXY := Lib.hid (And.intro hx hy)
                        obtain ⟨⟨a0, b0⟩, ⟨a3, b3⟩, k3⟩ := HPX.out wi (H35.out _ hB)
                        have hMl := (HX3.out wi (HB5.out.trans (hB.mono HB5.out.size))).2.2.2.2.2
                        clear hxc hxd hd1' htk hXE hx hy hB
                        by_cases hA : x = pi.id
                        · have hbA : (x == pi.id) = true := by simp [hA]
                          by_cases hBB : y = pj.id
                          · have hbB : (y == pj.id) = true := by simp [hBB]
                            have HAB := Lib.hid (And.intro hA hBB)
                            clear hA hBB
                            cases hDD : D with
                            | false =>
                              have HDF := Lib.hid hDD
                              -- dev+
                              clear hDD
                              go_upto_region 39 with fail
                              go_quiet (fail)
                              go_wp2_with fail
                              go_roundw
                              case rel => exact ⟨g + 1, by omega, by go_num, HBG.out.trans (below_drewN (Below.refl _ _) _), fun h => by cases h⟩
                              case measure => simp [intOf]; omega
                              -- dev-
                            | true =>
                              have hne2 := HNIJ.out (of_decide_eq_true (HD.out.symm.trans hDD))
                              have hxy : ¬ (g1 = g2 ∧ o1 + f = o2 + g) := fun ⟨e1, e2⟩ => by
                                rw [e1, e2, x2] at x1
                                injection x1 with x1
                                injection x1 with _ x1
                                exact hne2 (by rw [← HAB.out.1, ← HAB.out.2, x1])
                              have HXN := Lib.hid hxy
                              have HDT := Lib.hid hDD
                              clear hDD hne2 hxy
                              go_upto_region 39 with fail
                              go_quiet (fail)
                              go_upto_region 40 with fail
                              obtain ⟨w16, hw16⟩ : ∃ x, x = wi.drewN nq := ⟨_, rfl⟩
                              rw [← hw16]
                              have hb516 : Below w5.heap.size w5 w16 := HBG.out.trans (by rw [hw16]; exact below_drewN (Below.refl _ _) _)
                              clear hw16 c0 c1 c2 c3 d0 d1 d2 d3 x1 x2 a0 b0 a3 b3 k3 hz1 hz2 hz3 hMl
                              obtain ⟨⟨c0, c1, c2, c3⟩, ⟨d0, d1, d2, d3⟩, hxc, hxd, hz1, hz2, hz3⟩ := HBU.out w16 hb516
                              have x1 := hxc f hlt
                              have x2 := hxd g hlg
                              rw [← HXY.out.1] at x1
                              rw [← HXY.out.2] at x2
                              have hk1 := (hb516.block _ (Array.getElem?_eq_some_iff.1 HR1.out).1).trans HR1.out
                              have hk2 := (hb516.block _ (Array.getElem?_eq_some_iff.1 HR2.out).1).trans HR2.out
                              have f1 := row_free hk1 (i := o1 + f)
                              have f2 := row_free hk2 (i := o2 + g)
                              have z2 : (w16.setCell ⟨g1, o1 + f, none⟩ (.int .i64 y)).cell? ⟨g2, o2 + g, none⟩ = some (.int .i64 y) := by
                                rw [cell_set_ne (fun h => HXN.out ⟨h.1.symm, h.2.symm⟩)]; exact x2
                              have HB516 := Lib.hid hb516
                              clear hxc hxd hk1 hk2 hb516 c0 c1 c3 d0 d1 d3
                              go_cut [] from 274 to 299 (fun wx => wx = ((w16.setCell ⟨g1, o1 + f, none⟩ (.int .i64 y)).setCell ⟨g2, o2 + g, none⟩ (.int .i64 x)).drew)
                              case first =>
                                as_aux_lemma =>
                                  clear HX3 HSM HZL HU HIDG HPN HLEN HBN0 HH HCH HB3 HB5 HT5 HR HOB HOT HOC HTC HST HS1 HRV HB57 HAP HTUR HTS HAD HGB7 HGL5 HCL5 HRL5 HQ7 H7 HNE HBD HST8 HU8 HRV8 HADB HB59 HOK HSB HNIJ HWI HWJ HPX HBU HR1 HR2 HS12 HCM HDM HCX HBC HB514 HB515 HBF HNO HBG HNO2 HX1 HTK HXY HAB HXN HB516
                                  -- dev+
                                  go_big_region
                                  go_wp2_with fail
                                  go_meet
                                  exact rfl
                                  -- dev-
                              case rest =>
                                obtain ⟨w17, hw17⟩ : ∃ x, x = wc := ⟨_, rfl⟩
                                subst hw17
                                have HW17 := Lib.hid hcut
                                have h16 := HB516.out
                                have hT1 : T ≠ g1 := type_ne HT5.out HR1.out (by decide)
                                have hT2' : T ≠ g2 := type_ne HT5.out HR2.out (by decide)
                                have hb3_17 : Below w3.heap.size w3 w17 := by
                                  rw [hcut]
                                  exact (((H35.out _ h16).setCell (p := ⟨g1, o1 + f, none⟩) HGG.out.1 _).setCell (p := ⟨g2, o2 + g, none⟩) HGG.out.2.1 _).drew
                                have hk17 : w17.heap[gL]? = some (.cells curL 47 (0, 0)) := by
                                  rw [hcut]
                                  show ((w16.setCell ⟨g1, o1 + f, none⟩ (.int .i64 y)).setCell ⟨g2, o2 + g, none⟩ (.int .i64 x)).heap[gL]? = _
                                  rw [past_at HG12.out.2, past_at HG12.out.1]
                                  exact (h16.block _ (Array.getElem?_eq_some_iff.1 HGL5.out).1).trans HGL5.out
                                have hT17 : w17.heap[T]? = some (.cells #[.slice (some ⟨gL, 0, none⟩) L.buns.length cb, .slice at' L.tras.length ct, .slice ac L.cons.length cc] 39 (0, 0)) := by
                                  rw [hcut]
                                  show ((w16.setCell ⟨g1, o1 + f, none⟩ (.int .i64 y)).setCell ⟨g2, o2 + g, none⟩ (.int .i64 x)).heap[T]? = _
                                  rw [past_at hT2', past_at hT1]
                                  exact (h16.block _ hTl).trans HT5.out
                                have hcd : c ≠ d := fun e => by
                                  have h1 := of_decide_eq_true (HD.out.symm.trans HDT.out)
                                  rw [HBC.out.1, HBC.out.2] at h1
                                  subst e
                                  rcases h1 with h1 | h1 <;> exact h1 rfl
                                have e1 := HCL5.out c HCX.out.1
                                have e2 := HCL5.out d HCX.out.2
                                rw [← HBC.out.1] at e1
                                rw [← HBC.out.2] at e2
                                have c3 : w17.cell? ⟨gL, c * 4 + 3, none⟩ = some (.int .i64 bc.grams) := by rw [cell_of_row _ _ _ _ _ _ hk17]; exact e1 3 _ rfl
                                have d3 : w17.cell? ⟨gL, d * 4 + 3, none⟩ = some (.int .i64 bd.grams) := by rw [cell_of_row _ _ _ _ _ _ hk17]; exact e2 3 _ rfl
                                have f3 := row_free hk17 (i := c * 4 + 3)
                                have g3 := row_free hk17 (i := d * 4 + 3)
                                obtain ⟨_, ⟨a3, b3⟩, k3⟩ := HPX.out w17 hb3_17
                                have hgbc := HGB.out _ (List.getElem_mem HCX.out.1)
                                have hgbd := HGB.out _ (List.getElem_mem HCX.out.2)
                                rw [← HBC.out.1] at hgbc
                                rw [← HBC.out.2] at hgbd
                                have hw1 : IntKind.i64.wrap (pj.grams - pi.grams) = pj.grams - pi.grams := IntWalk.i64_in _ (by omega)
                                have hw2 : IntKind.i64.wrap (pi.grams - pj.grams) = pi.grams - pj.grams := IntWalk.i64_in _ (by omega)
                                have hw3 : IntKind.i64.wrap (bc.grams + (pj.grams - pi.grams)) = bc.grams + (pj.grams - pi.grams) := IntWalk.i64_in _ (by omega)
                                have hw4 : IntKind.i64.wrap (bd.grams + (pi.grams - pj.grams)) = bd.grams + (pi.grams - pj.grams) := IntWalk.i64_in _ (by omega)
                                have hz17 := (Array.getElem?_eq_some_iff.1 hk17).1
                                have HB317 := Lib.hid hb3_17
                                have HK17 := Lib.hid hk17
                                have HT17 := Lib.hid hT17
                                have HCD := Lib.hid hcd
                                have HE12 := Lib.hid (And.intro e1 e2)
                                clear hcut h16 hT1 hT2' hb3_17 hk17 hT17 hcd e1 e2 hgbc hgbd hMl x1 x2 z2 f1 f2 c2 d2 hz1 hz2 hz3
                                go_upto_region 41 with fail
                                go_cut [] from 300 to 319 (fun wx => wx = (w17.setCell ⟨gL, c * 4 + 3, none⟩ (.int .i64 (bc.grams + (pj.grams - pi.grams)))).drew)
                                case first =>
                                  as_aux_lemma =>
                                    -- dev+
                                    clear d3 g3 hw2 hw4
                                    go_big_region
                                    go_wp2_with fail
                                    go_meet
                                    exact rfl
                                    -- dev-
                                case rest =>
                                  obtain ⟨w18, hw18⟩ : ∃ x, x = wc := ⟨_, rfl⟩
                                  subst hw18
                                  have HW18 := Lib.hid hcut
                                  have hb3_18 : Below w3.heap.size w3 w18 := by
                                    rw [hcut]
                                    exact (HB317.out.setCell (p := ⟨gL, c * 4 + 3, none⟩) HGG.out.2.2 _).drew
                                  have hk18 : w18.heap[gL]? = some (.cells (curL.setIfInBounds (c * 4 + 3) (.int .i64 (bc.grams + (pj.grams - pi.grams)))) 47 (0, 0)) := by
                                    rw [hcut]
                                    exact set_row HK17.out _
                                  have hd18 : w18.cell? ⟨gL, d * 4 + 3, none⟩ = some (.int .i64 bd.grams) := by
                                    rw [hcut]
                                    show (w17.setCell ⟨gL, c * 4 + 3, none⟩ _).cell? ⟨gL, d * 4 + 3, none⟩ = _
                                    rw [cell_set_ne (fun h => HCD.out (by have := h.2; omega))]
                                    exact d3
                                  have f4 := row_free hk18 (i := d * 4 + 3)
                                  have hT18 : w18.heap[T]? = w17.heap[T]? := by
                                    rw [hcut]
                                    exact past_at (type_ne HT17.out HK17.out (by decide))
                                  have hz18 := (Array.getElem?_eq_some_iff.1 hk18).1
                                  clear c3 d3 f3 g3 a3 b3 k3
                                  obtain ⟨_, ⟨a3, b3⟩, k3⟩ := HPX.out w18 hb3_18
                                  have HB318 := Lib.hid hb3_18
                                  have HK18 := Lib.hid hk18
                                  have HT18 := Lib.hid (hT18.trans HT17.out)
                                  clear hcut hb3_18 hk18 hT18
                                  go_upto_region 42 with fail
                                  go_cut [] from 320 to 339 (fun wx => wx = (w18.setCell ⟨gL, d * 4 + 3, none⟩ (.int .i64 (bd.grams + (pi.grams - pj.grams)))).drew)
                                  case first =>
                                    as_aux_lemma =>
                                      -- dev+
                                      clear hw1 hw3
                                      go_big_region
                                      go_wp2_with fail
                                      go_meet
                                      exact rfl
                                      -- dev-
                                  case rest =>
                                    obtain ⟨w19, hw19⟩ : ∃ x, x = wc := ⟨_, rfl⟩
                                    subst hw19
                                    have hb3_19 : Below w3.heap.size w3 w19 := by
                                      rw [hcut]
                                      exact (HB318.out.setCell (p := ⟨gL, d * 4 + 3, none⟩) HGG.out.2.2 _).drew
                                    have hk19 : w19.heap[gL]? = some (.cells ((curL.setIfInBounds (c * 4 + 3) (.int .i64 (bc.grams + (pj.grams - pi.grams)))).setIfInBounds (d * 4 + 3) (.int .i64 (bd.grams + (pi.grams - pj.grams)))) 47 (0, 0)) := by
                                      rw [hcut]
                                      exact set_row HK18.out _
                                    have hT19 : w19.heap[T]? = some (.cells #[.slice (some ⟨gL, 0, none⟩) L.buns.length cb, .slice at' L.tras.length ct, .slice ac L.cons.length cc] 39 (0, 0)) := by
                                      rw [hcut]
                                      exact (past_at (type_ne HT18.out HK18.out (by decide))).trans HT18.out
                                    have hx19 : w19.cell? ⟨g1, o1 + f, none⟩ = some (.int .i64 y) := by
                                      rw [hcut]
                                      show (w18.setCell ⟨gL, d * 4 + 3, none⟩ _).cell? ⟨g1, o1 + f, none⟩ = _
                                      rw [cell_set_ne (fun h => HG12.out.1 h.1.symm), HW18.out]
                                      show (w17.setCell ⟨gL, c * 4 + 3, none⟩ _).cell? ⟨g1, o1 + f, none⟩ = _
                                      rw [cell_set_ne (fun h => HG12.out.1 h.1.symm), HW17.out]
                                      show ((w16.setCell ⟨g1, o1 + f, none⟩ (.int .i64 y)).setCell ⟨g2, o2 + g, none⟩ _).cell? ⟨g1, o1 + f, none⟩ = _
                                      rw [cell_set_ne HXN.out]
                                      obtain ⟨_, _, hxc, _⟩ := HBU.out w16 HB516.out
                                      have hh := hxc f hlt
                                      rw [cell_of_row _ _ _ _ _ _ ((HB516.out.block _ (Array.getElem?_eq_some_iff.1 HR1.out).1).trans HR1.out)] at hh
                                      exact cell_set_eq ((HB516.out.block _ (Array.getElem?_eq_some_iff.1 HR1.out).1).trans HR1.out) (Array.getElem?_eq_some_iff.1 hh).1
                                    have hI : IntsTo w5 w19 y x := by
                                      rw [hcut]
                                      refine (IntsTo.other ?_ (fun cur h => by rw [HGL5.out] at h; injection h with h; injection h with _ h _; exact absurd h (by decide)) _).drew
                                      rw [HW18.out]
                                      refine (IntsTo.other ?_ (fun cur h => by rw [HGL5.out] at h; injection h with h; injection h with _ h _; exact absurd h (by decide)) _).drew
                                      rw [HW17.out]
                                      exact (((IntsTo.of_below y x HB516.out).set (.inl rfl) g1 (o1 + f)).set (.inr rfl) g2 (o2 + g)).drew
                                    have hstay : ∀ (k : Nat) (cur : Array Value) (t : TypeId) (fr : Nat × Nat), w5.heap[k]? = some (.cells cur t fr) → t ≠ 3 → k ≠ gL → w19.heap[k]? = w5.heap[k]? := fun k cur t fr h1 h2 h3 => by
                                      rw [hcut]
                                      show (w18.setCell ⟨gL, d * 4 + 3, none⟩ _).heap[k]? = _
                                      rw [past_at h3, HW18.out]
                                      show (w17.setCell ⟨gL, c * 4 + 3, none⟩ _).heap[k]? = _
                                      rw [past_at h3, HW17.out]
                                      show ((w16.setCell ⟨g1, o1 + f, none⟩ (.int .i64 y)).setCell ⟨g2, o2 + g, none⟩ _).heap[k]? = _
                                      rw [past_at (type_ne h1 HR2.out h2), past_at (type_ne h1 HR1.out h2)]
                                      exact HB516.out.block k (Array.getElem?_eq_some_iff.1 h1).1
                                    have hzL := (Array.getElem?_eq_some_iff.1 hk19).1
                                    obtain ⟨buns', hbl, hbr, hbx⟩ := ints_x (n := 4) (cf := bunCell) (ids := fun b : Bun => b.ids) (cap := cb) hI HRL5.out (fun i l => ⟨(L.buns.getD i ⟨0, noB, [], 0⟩).lvl, (L.buns.getD i ⟨0, noB, [], 0⟩).grp, l, if i = d then bd.grams + (pi.grams - pj.grams) else if i = c then bc.grams + (pj.grams - pi.grams) else (L.buns.getD i ⟨0, noB, [], 0⟩).grams⟩) (fun _ _ => rfl) (fun i hi l j u hj => by
                                      have hg : L.buns.getD i ⟨0, noB, [], 0⟩ = L.buns[i] := by rw [List.getD_eq_getElem?_getD, List.getElem?_eq_getElem hi]; rfl
                                      rw [cell_of_row _ _ _ _ _ _ hk19]
                                      have hcc := HCL5.out i hi
                                      have hsz : i * 4 + 3 < curL.size := by
                                        have := hcc 3 _ rfl
                                        exact (Array.getElem?_eq_some_iff.1 this).1
                                      rw [hg] at hj
                                      match j, hj with
                                      | 0, hj => rw [Array.getElem?_setIfInBounds_ne (by omega), Array.getElem?_setIfInBounds_ne (by omega)]; exact hcc 0 _ hj
                                      | 1, hj => rw [Array.getElem?_setIfInBounds_ne (by omega), Array.getElem?_setIfInBounds_ne (by omega)]; exact hcc 1 _ hj
                                      | 2, hj => rw [Array.getElem?_setIfInBounds_ne (by omega), Array.getElem?_setIfInBounds_ne (by omega)]; exact hcc 2 _ hj
                                      | 3, hj =>
                                        have hj2 : some (Value.int .i64 (if i = d then bd.grams + (pi.grams - pj.grams) else if i = c then bc.grams + (pj.grams - pi.grams) else L.buns[i].grams)) = some u := hj
                                        by_cases hid : i = d
                                        · rw [if_pos hid] at hj2
                                          rw [← hid, Array.getElem?_setIfInBounds_self_of_lt (by simp; omega)]
                                          exact hj2
                                        · rw [if_neg hid] at hj2
                                          rw [Array.getElem?_setIfInBounds_ne (by omega)]
                                          by_cases hic : i = c
                                          · rw [if_pos hic] at hj2
                                            rw [← hic, Array.getElem?_setIfInBounds_self_of_lt (by omega)]
                                            exact hj2
                                          · rw [if_neg hic] at hj2
                                            rw [Array.getElem?_setIfInBounds_ne (by omega)]
                                            exact hcc 3 _ hj2
                                      | j + 4, hj => simp [bunCell] at hj) hzL rfl
                                    obtain ⟨gX, sX, curX, hatX, _, hgX, _, hcX, hrX⟩ := OwnsX.open (n := 3) (cf := traCell) (fun _ => rfl) HOT.out htp
                                    have hcp : 0 < L.cons.length := by
                                      have h1 : ((L.cons.map (fun c => c.ts)).flatten).length = L.tras.length := HH.out.ok.cons.once.all
                                      cases hb : L.cons with
                                      | nil => rw [hb] at h1; simp at h1; omega
                                      | cons _ _ => simp
                                    obtain ⟨gY, sY, curY, hatY, _, hgY, _, hcY, hrY⟩ := OwnsX.open (n := 2) (cf := conCell) (fun _ => rfl) HOC.out hcp
                                    have hk19X := (hstay gX _ _ _ hgX (by decide) (type_ne hgX HGL5.out (by decide))).trans hgX
                                    have hk19Y := (hstay gY _ _ _ hgY (by decide) (type_ne hgY HGL5.out (by decide))).trans hgY
                                    obtain ⟨tras', htl, htr, htx⟩ := ints_x (n := 3) (cf := traCell) (ids := fun t : Tra => t.bs) (g := gX) (cap := ct) hI hrX (fun i l => ⟨(L.tras.getD i ⟨0, noB, []⟩).lvl, (L.tras.getD i ⟨0, noB, []⟩).grp, l⟩) (fun _ _ => rfl) (fun i hi l j u hj => by
                                      rw [tra_get hi] at hj
                                      rw [cell_of_row _ _ _ _ _ _ hk19X]
                                      match j, hj with
                                      | 0, hj => exact hcX i hi 0 _ hj
                                      | 1, hj => exact hcX i hi 1 _ hj
                                      | 2, hj => exact hcX i hi 2 _ hj
                                      | j + 3, hj => simp [traCell] at hj) (Array.getElem?_eq_some_iff.1 hk19X).1 rfl
                                    obtain ⟨cons', hcl', hcr, hcx⟩ := ints_x (n := 2) (cf := conCell) (ids := fun t : Con => t.ts) (g := gY) (cap := cc) hI hrY (fun i l => ⟨(L.cons.getD i ⟨0, []⟩).lvl, l⟩) (fun _ _ => rfl) (fun i hi l j u hj => by
                                      have hg : L.cons.getD i ⟨0, []⟩ = L.cons[i] := by rw [List.getD_eq_getElem?_getD, List.getElem?_eq_getElem hi]; rfl
                                      rw [hg] at hj
                                      rw [cell_of_row _ _ _ _ _ _ hk19Y]
                                      match j, hj with
                                      | 0, hj => exact hcY i hi 0 _ hj
                                      | 1, hj => exact hcY i hi 1 _ hj
                                      | j + 2, hj => simp [conCell] at hj) (Array.getElem?_eq_some_iff.1 hk19Y).1 rfl
                                    have hrd : RdLod w19 (.slice (some ⟨gL, 0, none⟩) L.buns.length cb) (.slice at' L.tras.length ct) (.slice ac L.cons.length cc) ⟨buns', tras', cons'⟩ := ⟨hbr, by rw [hatX]; exact htr, by rw [hatY]; exact hcr⟩
                                    have hsm' : SmallL ⟨buns', tras', cons'⟩ := by
                                      refine ⟨by rw [show (⟨buns', tras', cons'⟩ : Lod).buns.length = L.buns.length from hbl]; exact HSM.out.b, by rw [show (⟨buns', tras', cons'⟩ : Lod).tras.length = L.tras.length from htl]; exact HSM.out.t, by rw [show (⟨buns', tras', cons'⟩ : Lod).cons.length = L.cons.length from hcl']; exact HSM.out.c, ?_, ?_, ?_⟩
                                      · rw [flat_len_eq _ L.buns buns' hbl (fun i hi hi' => by
                                          obtain ⟨l, e, h1, _⟩ := hbx i hi hi'
                                          rw [e]; exact h1)]
                                        exact HSM.out.bi
                                      · rw [flat_len_eq _ L.tras tras' htl (fun i hi hi' => by
                                          obtain ⟨l, e, h1, _⟩ := htx i hi hi'
                                          rw [e]; exact h1)]
                                        exact HSM.out.ti
                                      · rw [flat_len_eq _ L.cons cons' hcl' (fun i hi hi' => by
                                          obtain ⟨l, e, h1, _⟩ := hcx i hi hi'
                                          rw [e]; exact h1)]
                                        exact HSM.out.ci
                                    have hids : ∀ b ∈ (⟨buns', tras', cons'⟩ : Lod).buns, ∀ i ∈ b.ids, 0 ≤ i ∧ i ≤ 999999 := fun b hb i hi => by
                                      obtain ⟨q, hq, rfl⟩ := List.getElem_of_mem (show b ∈ buns' from hb)
                                      obtain ⟨l, e, _, h2, _⟩ := hbx q (by omega) hq
                                      rw [e] at hi
                                      rcases h2 i hi with h | h | h
                                      · have := (HH.out.own _ (List.getElem_mem (by omega : q < L.buns.length))).2.2 i h
                                        omega
                                      · rw [h, HAB.out.2]; omega
                                      · rw [h, HAB.out.1]; omega
                                    have hnot : ¬ LodOk ⟨kp, kg, kb, kt⟩ (mail24 l).ps zs ns ⟨buns', tras', cons'⟩ := by
                                      obtain ⟨l', e, h1, _, h3⟩ := hbx c HCX.out.1 (by rw [hbl]; exact HCX.out.1)
                                      have hg : L.buns.getD c ⟨0, noB, [], 0⟩ = L.buns[c]'HCX.out.1 := by rw [List.getD_eq_getElem?_getD, List.getElem?_eq_getElem HCX.out.1]; rfl
                                      have hne3 := of_decide_eq_true (HD.out.symm.trans HDT.out)
                                      rw [HBC.out.1, HBC.out.2] at hne3
                                      have hfl : f < l'.length := by rw [h1, ← HBC.out.1]; exact hlt
                                      refine HSB.out hne3 ⟨buns', tras', cons'⟩ (buns'[c]'(by rw [hbl]; exact HCX.out.1)) (List.getElem_mem _) ?_ ?_ ?_
                                      · rw [e, ← hg]
                                      · rw [e, ← hg]
                                      · rw [e]
                                        show pj.id ∈ l'
                                        have h4 := h3 _ _ _ _ HS12.out.1 f hfl
                                        rw [hx19] at h4
                                        injection h4 with h4
                                        injection h4 with _ h4
                                        rw [← HAB.out.2, h4]
                                        exact List.getElem_mem _
                                    obtain ⟨hl19, hp19, hz19, ⟨m0, m1, m2, m3⟩, ⟨y0, y1, y2, y3⟩, hMl⟩ := HX3.out w19 hb3_19
                                    have HCB2 := Lib.hid (HCH.out w19 _ _ _ _ _ _ _ hl19 hp19 hz19 hrd hsm' hids)
                                    have HNOT := Lib.hid hnot
                                    have HB319 := Lib.hid hb3_19
                                    obtain ⟨t0, t1, t2⟩ := cells3 hT19
                                    clear hcut hk19 hT19 hx19 hI hstay hbl hbr hbx htl htr htx hcl' hcr hcx hgX hcX hrX hgY hcY hrY hatX hatY hk19X hk19Y hrd hsm' hids hnot hl19 hp19 hz19 hb3_19 a3 b3 k3 hw1 hw2 hw3 hw4
                                    go_upto_region 44 with (go_at_call 13; refine HCB2.out.mono ?_; rintro e w20 ⟨u, rfl, hb20, hu⟩; obtain rfl := hu.false HNOT.out)
                                    go_wp2_with fail
                                    go_ret
                                    exact ⟨rfl, HB3.out.trans ((HB319.out.trans (hb20.mono HB319.out.size)).mono HB3.out.size)⟩
                          · have hbB : (y == pj.id) = false := by simp [hBB]
                            have HNB := Lib.hid hBB
                            -- dev+
                            clear hA hBB
                            go_upto_region 39 with fail
                            go_quiet (fail)
                            go_wp2_with fail
                            go_roundw
                            case rel =>
                              refine ⟨g + 1, by omega, by go_num, HBG.out.trans (below_drewN (Below.refl _ _) _), fun h h2 => ?_⟩
                              rw [HTK.out]
                              intro hm
                              rcases List.mem_append.1 hm with hm | hm
                              · exact HNO2.out h h2 hm
                              · exact HNB.out (List.mem_singleton.1 hm).symm
                            case measure => simp [intOf]; omega
                            -- dev-
                        · have hbA : (x == pi.id) = false := by simp [hA]
                          have HNA := Lib.hid hA
                          -- dev+
                          clear hA
                          go_upto_region 39 with fail
                          go_quiet (fail)
                          go_wp2_with fail
                          go_roundw
                          case rel => exact ⟨g + 1, by omega, by go_num, HBG.out.trans (below_drewN (Below.refl _ _) _), fun h h2 => absurd (HX1.out.symm.trans h2) HNA.out⟩
                          case measure => simp [intOf]; omega
                          -- dev-
                      · obtain rfl : g = bd.ids.length := by omega
                        have hfl : f < bc.ids.length := hlt
                        have hnx : D = true → pi.id ∉ bc.ids.take (f + 1) := fun h hm => by
                          rw [List.take_succ_eq_append_getElem hfl] at hm
                          rcases List.mem_append.1 hm with hm | hm
                          · exact HNO.out h hm
                          · have h2 := HNO2.out h (by rw [List.getD_eq_getElem?_getD, List.getElem?_eq_getElem hfl]; exact (List.mem_singleton.1 hm).symm)
                            rw [List.take_length] at h2
                            exact h2 HDM.out
                        have HNX := Lib.hid hnx
                        clear hnx hfl hB
                        go_wp2_with fail
                        go_roundw
                        case rel => exact ⟨f + 1, by omega, by go_num, HBG.out, HNX.out⟩
                        case measure => simp [intOf]; omega
                  · obtain rfl : f = bc.ids.length := by omega
                    have hDf : D = false := by
                      cases hDD : D with
                      | false => rfl
                      | true =>
                        have h2 := HNO.out hDD
                        rw [List.take_length] at h2
                        exact absurd HCM.out h2
                    subst hDf
                    go_wp2_with fail
                    go_ret
                    exact ⟨rfl, HB3.out.trans ((HB5.out.trans (hB.mono HB5.out.size)).mono HB3.out.size)⟩
end Go.Proofs.YtelklmdlodgdpaaGreat
