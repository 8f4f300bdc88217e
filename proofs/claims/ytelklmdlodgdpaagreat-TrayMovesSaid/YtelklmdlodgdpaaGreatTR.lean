/-
  tray.bundlesRight.
-/
import Derived.Test.YtelklmdlodgdpaaGreatTQ
import Derived.Test.YtelklmdlodgdpaaGreatTM
namespace Go.Proofs.YtelklmdlodgdpaaGreat
open Go.RowKit Go.Sort
set_option linter.unusedVariables false
set_option maxRecDepth 100000
theorem buns_at {k : Pck} {ps : List Pce} {zs : List Int} {ns : List ByteArray} {bs : List Bun} (h : BunsOk k ps zs ns bs) {q p : Nat} (hq : q < bs.length) (hp : p < bs[q].ids.length) :
    ∃ j : Nat, j < ps.length ∧ (pcAt ps (j : Int)).id = bs[q].ids[p] ∧ bs[q].ids[p] ∉ (bs.take q).flatMap (fun b => b.ids) ++ bs[q].ids.take p ∧ zs.getD j (-1) = bs[q].lvl ∧ ns.getD j noB = bs[q].grp := by
  obtain ⟨I, h1, h2, _⟩ := h.good _ (List.getElem_mem hq)
  have hpI : p < I.length := by
    have := congrArg List.length h2
    rw [List.length_map] at this
    omega
  obtain ⟨a1, a2, a3, a4⟩ := h1 _ (List.getElem_mem hpI)
  have he : bs[q].ids[p] = (pcAt ps I[p]).id := by
    have h3 : bs[q].ids[p]? = (I.map (fun i => (pcAt ps i).id))[p]? := by rw [← h2]
    rw [List.getElem?_eq_getElem hp, List.getElem?_map, List.getElem?_eq_getElem hpI] at h3
    exact Option.some.inj h3
  refine ⟨(I[p]).toNat, a2, by rw [Int.toNat_of_nonneg a1, he], ?_, a3, a4⟩
  intro hc
  have hN := h.once
  have hfs := flat_split (ls := bs.map (fun b => b.ids)) (q := q) (p := p) (by rw [List.length_map]; exact hq) (by rw [List.getElem_map]; exact hp)
  rw [flat_bs] at hfs
  have hmt : ((bs.map (fun b => b.ids)).take q).flatten = (bs.take q).flatMap (fun b => b.ids) := by rw [← List.map_take, flat_bs]
  simp only [List.getElem_map, hmt] at hfs
  rw [hfs, ← List.append_assoc, List.nodup_append] at hN
  exact hN.2.2 _ hc _ List.mem_cons_self rfl
theorem buns_sum {k : Pck} {ps : List Pce} {zs : List Int} {ns : List ByteArray} (hu : IdsUp ps) {b : Bun} (h : BunGood k ps zs ns b) {I : List Int} (hI : ∀ i ∈ I, 0 ≤ i ∧ i.toNat < ps.length) (he : b.ids = I.map (fun i => (pcAt ps i).id)) : gramsOf ps I = b.grams ∧ b.grams ≤ k.grams := by
  obtain ⟨I', h1, h2, h3, _, _, h6⟩ := h
  have : I = I' := by
    have hl : I.length = I'.length := by
      have e1 := congrArg List.length he
      have e2 := congrArg List.length h2
      rw [List.length_map] at e1 e2
      omega
    refine List.ext_getElem hl (fun i hi hi' => ?_)
    have e1 : (I.map (fun i => (pcAt ps i).id))[i]? = (I'.map (fun i => (pcAt ps i).id))[i]? := by rw [← he, ← h2]
    rw [List.getElem?_map, List.getElem?_map, List.getElem?_eq_getElem hi, List.getElem?_eq_getElem hi'] at e1
    have e2 := Option.some.inj e1
    exact ids_inj hu (hI _ (List.getElem_mem hi)) ⟨(h1 _ (List.getElem_mem hi')).1, (h1 _ (List.getElem_mem hi')).2.1⟩ e2
  subst this
  exact ⟨h3, h6⟩
theorem grams_max {ps : List Pce} {M : Int} (h : ∀ p ∈ ps, 0 ≤ p.grams ∧ p.grams ≤ M) : ∀ I : List Int, (∀ i ∈ I, 0 ≤ i ∧ i.toNat < ps.length) → 0 ≤ gramsOf ps I ∧ gramsOf ps I ≤ M * I.length
  | [], _ => by unfold gramsOf; simp
  | i :: r, hI => by
    have ih := grams_max h r (fun j hj => hI j (List.mem_cons_of_mem _ hj))
    have hi := h _ (pcAt_mem (hI i List.mem_cons_self)).2
    have e : gramsOf ps (i :: r) = (pcAt ps i).grams + gramsOf ps r := by unfold gramsOf; simp
    rw [e, List.length_cons]
    have : M * ((r.length + 1 : Nat) : Int) = M * r.length + M := by
      rw [Int.natCast_add, Int.mul_add]; simp
    omega
theorem OwnsII.pos {w : World} {B n c : Nat} {f : Int → Option Int} (h : OwnsII w B n f c) {x y : Int} (hx : f x = some y) : 1 ≤ c := by
  obtain ⟨D, hD, hc, hf⟩ := h
  have := Maps.size_del (hD.tidy keyed_int) (k := Lit.int .i64 x)
  rw [((hf x).2 y hx).1, if_pos rfl, hc] at this
  omega
theorem OwnsII.ne {w : World} {B n c : Nat} {f : Int → Option Int} (h : OwnsII w B n f c) {N : Nat} {cs : Array Value} {t : TypeId} {fr : Nat × Nat} (hN : w.heap[N]? = some (.cells cs t fr)) : N ≠ B := fun e => by
  obtain ⟨D, ⟨es, cl, hb, _⟩, _⟩ := h
  rw [e, hb] at hN
  injection hN with hN
  cases hN
theorem run_makeMapH (n : Int) (w : World) : (Instr.makeMap 43 (some (.int .i64 n))).run Tryz.prog w = .ok (.map (some w.heap.size)) (w.alloc (.map #[] 0)) := by
  simp only [Instr.makeMap, Sem.run_bind, run_underlying Tryz.underlying43, Result.andThen]
  rfl
set_option maxHeartbeats 32000000 in
theorem bundlesRight_any (k : Pck) (l : Lod) (m : Mai) (zs : List Int) (ns : List ByteArray) (vp vz vn vb vt vc : Value) (w : World) (hrp : RdPces w vp m.ps) (hz : RdInts w vz zs) (hn : ReadsT w vn ns) (hr : RdLod w vb vt vc l) (hs : SmallL l)
    (hu : IdsUp m.ps) (hpl : m.ps.length ≤ 2000) (hzl : zs.length = m.ps.length) (hnl : ns.length = m.ps.length) (hg : ∀ p ∈ m.ps, 0 ≤ p.grams ∧ p.grams ≤ 50000 ∧ 0 ≤ p.id ∧ p.id ≤ 999999) (hid : ∀ b ∈ l.buns, ∀ i ∈ b.ids, 0 ≤ i ∧ i ≤ 999999) :
    Calls Tryz.prog 29 #[maiV m vp, vz, vn, pckV k, lodV vb vt vc] w fun e w' => ∃ v, e = .returned v ∧ Below w.heap.size w w' ∧ IsB v (BunsOk k m.ps zs ns l.buns) := by
  obtain ⟨ab, cb, hvb, hcb⟩ := hr.b
  obtain ⟨at', ct, hvt, _⟩ := hr.t
  obtain ⟨ac, cc, hvc, _⟩ := hr.c
  subst hvb hvt hvc
  obtain ⟨av, cv, rfl, hpc⟩ := hrp
  obtain ⟨az, cz, rfl, hzc⟩ := hz
  obtain ⟨an, cn, rfl, hnc⟩ := hn
  have hnb := hs.b
  have hbi := hs.bi
  have hpl2 := fun x hx => part_le (f := fun t : Bun => t.ids) hs.bi x hx
  unfold lodV pckV maiV
  have HSU := Lib.hid (fun b (h : BunGood k m.ps zs ns b) I hI he => buns_sum hu h (I := I) hI he)
  have HAT := Lib.hid (fun (h : BunsOk k m.ps zs ns l.buns) q p hq hp => buns_at h (q := q) (p := p) hq hp)
  have HGD := Lib.hid (fun (h : BunsOk k m.ps zs ns l.buns) => h.good)
  have HALL := Lib.hid (fun (h : BunsOk k m.ps zs ns l.buns) => h.all)
  have HMK := Lib.hid (fun h1 h2 h3 => (⟨h1, h2, h3⟩ : BunsOk k m.ps zs ns l.buns))
  obtain ⟨OK, hOK⟩ : ∃ P, P = BunsOk k m.ps zs ns l.buns := ⟨_, rfl⟩
  rw [← hOK] at HAT HGD HALL HMK ⊢
  have hGOOD : ∀ b, BunGood k m.ps zs ns b ↔ ∃ I : List Int, (∀ i ∈ I, 0 ≤ i ∧ i.toNat < m.ps.length ∧ zs.getD i.toNat (-1) = b.lvl ∧ ns.getD i.toNat noB = b.grp) ∧ b.ids = I.map (fun i => (pcAt m.ps i).id) ∧ gramsOf m.ps I = b.grams ∧ 1 ≤ I.length ∧ (I.length : Int) ≤ k.pieces ∧ b.grams ≤ k.grams := fun b => Iff.rfl
  obtain ⟨GD, hGD⟩ : ∃ f : Bun → Prop, f = BunGood k m.ps zs ns := ⟨_, rfl⟩
  rw [← hGD] at HSU HGD HMK
  have HGI := Lib.hid (fun b => by rw [hGD]; exact hGOOD b : ∀ b, GD b ↔ ∃ I : List Int, (∀ i ∈ I, 0 ≤ i ∧ i.toNat < m.ps.length ∧ zs.getD i.toNat (-1) = b.lvl ∧ ns.getD i.toNat noB = b.grp) ∧ b.ids = I.map (fun i => (pcAt m.ps i).id) ∧ gramsOf m.ps I = b.grams ∧ 1 ≤ I.length ∧ (I.length : Int) ≤ k.pieces ∧ b.grams ≤ k.grams)
  obtain ⟨kp, kg, kb, kt⟩ := k
  obtain ⟨bs, ts, cs⟩ := l
  obtain ⟨cls, ctr, org, ps⟩ := m
  dsimp only at *
  obtain ⟨w3, hw3⟩ : ∃ w3, w3 = ((w.alloc (.cells #[.int .u8 cls, .int .u8 ctr, .string org, .slice av ps.length cv] 29)).alloc (.cells #[.int .i64 kp, .int .i64 kg, .int .i64 kb, .int .i64 kt] 32)).alloc (.cells #[.slice ab bs.length cb, .slice at' ts.length ct, .slice ac cs.length cc] 39) := ⟨_, rfl⟩
  obtain ⟨g1, g2, g3⟩ := boxes3 hw3
  have hz3 : w3.heap.size = w.heap.size + 1 + 1 + 1 := by rw [hw3, World.size_alloc, World.size_alloc, World.size_alloc]
  have hb3 : Below w.heap.size w w3 := by
    rw [hw3]
    exact (((Below.refl _ w).alloc (Nat.le_refl _) _).alloc (by simp) _).alloc (by simp; omega) _
  have HBX := Lib.hid (fun (W : World) (hB : Below w3.heap.size w3 W) => And.intro (cells4 ((hB.block _ (by omega)).trans g1)) (And.intro (cells4 ((hB.block _ (by omega)).trans g2)) (cells3 ((hB.block _ (by omega)).trans g3))))
  have HW3 := Lib.hid hw3
  have HB3 := Lib.hid hb3
  have HPC := Lib.hid hpc
  have HZC := Lib.hid hzc
  have HNC := Lib.hid hnc
  have HCB := Lib.hid hcb
  have HG := Lib.hid hg
  have HID := Lib.hid hid
  have HPL2 := Lib.hid hpl2
  have HU := Lib.hid hu
  have HZL := Lib.hid hzl
  have HNL := Lib.hid hnl
  have HGM := Lib.hid (fun I hI => grams_max (M := 50000) (fun p hp => ⟨(hg p hp).1, (hg p hp).2.1⟩) I hI)
  clear hw3 hb3 hz3 g1 g2 g3 hpc hzc hnc hcb hg hid hpl2 hr hs hu hGOOD hGD hOK hzl hnl
  obtain ⟨⟨x0, x1, x2, x3⟩, ⟨y0, y1, y2, y3⟩, u0, u1, u2⟩ := HBX.out w3 (Below.refl _ _)
  have hmm := run_makeMapH
  go_enter Tryz.func29, Tryz.ntmps29
  go_upto_region 1 with fail
  rw [← HW3.out]
  obtain ⟨w4, hw4⟩ : ∃ w4, w4 = w3.alloc (.map #[] 0) := ⟨_, rfl⟩
  have hb4 : Below w3.heap.size w3 w4 := by rw [hw4]; exact (Below.refl _ _).alloc (Nat.le_refl _) _
  have hI4 : OwnsII w4 w3.heap.size 0 (idxP ps 0 []) 0 := by
    have h := OwnsII.made w3
    rw [← hw4] at h
    have e : (fun _ => none : Int → Option Int) = idxP ps 0 [] := funext (fun u => (idxP_none (fun j hj _ => absurd hj (Nat.not_lt_zero _))).symm)
    rw [e] at h
    exact h
  obtain ⟨⟨p0, p1, p2, p3⟩, ⟨q0, q1, q2, q3⟩, r0, r1, r2⟩ := HBX.out w4 hb4
  have HW4 := Lib.hid hw4
  have HB4 := Lib.hid hb4
  have HI4 := Lib.hid hI4
  clear hw4 hb4 hI4
  go_upto_region 2 with fail
  rw [← HW4.out]
  clear hmm x0 x1 x2 x3 y0 y1 y2 y3 u0 u1 u2
  go_wp2_with fail
  go_loopw [28] (fun i wx => ∃ j : Nat, j ≤ ps.length ∧ i = .int .i64 j ∧ Below w3.heap.size w3 wx ∧ OwnsII wx w3.heap.size j (idxP ps j []) j) (fun i _ => ps.length - (intOf i).toNat)
  case atStart => exact ⟨0, Nat.zero_le _, rfl, HB4.out, HI4.out⟩
  case round =>
    clear p0 p1 p2 p3 q0 q1 q2 q3 r0 r1 r2
    obtain ⟨j, hj, rfl, hB, hI⟩ := hrel
    have HB := Lib.hid hB
    by_cases hlt : j < ps.length
    · obtain ⟨g, off, rfl, hg, hat⟩ := HPC.out (by omega)
      have hp := ((hat j hlt).below HB3.out hg).below hB (Nat.lt_of_lt_of_le hg HB3.out.size)
      have hgj := HG.out _ (List.getElem_mem hlt)
      have hpe : pcAt ps (j : Int) = ps[j] := (pcAt_mem ⟨by omega, by rw [Int.toNat_natCast]; exact hlt⟩).1
      have hsucc := idxP_succ HU.out hlt
      have hnone : idxP ps j [] ps[j].id = none := idxP_none (fun i hi he => by
        have := HU.out i j hi hlt
        rw [hpe] at this
        omega)
      rw [hpe] at hsucc
      obtain ⟨p, hpp⟩ : ∃ p, p = ps[j] := ⟨_, rfl⟩
      rw [← hpp] at hp hgj hsucc hnone
      obtain ⟨id, pt, cd, gr, br⟩ := p
      obtain ⟨p0, p1, p2, p3, p4⟩ := hp
      dsimp only at p0 p1 p2 p3 p4 hgj hsucc hnone
      have HI := Lib.hid (hI.below ((Below.refl wr.heap.size wr).alloc (Nat.le_refl _) (.cells #[.int .i64 id, .int .i64 pt, .string cd, .int .i64 gr, .bool br] 45)))
      have HSU2 := Lib.hid hsucc
      have HNN := Lib.hid hnone
      clear hpe hpp hat hB hI hsucc hnone
      go_wp2_with (refine wpList_update_II _ rfl _ _ _ _ rfl Tryz.underlying43 w3.heap.size j j (idxP ps j []) rfl HI.out (by unfold maxLen; omega) id (j : Int) (WalkArith.wf_i64 (by omega)) (WalkArith.wf_i64 (by omega)) HNN.out rfl rfl ?_; intro w5 hown5 hg5)
      go_roundw
      case rel =>
        refine ⟨j + 1, by omega, by go_num, (HB.out.alloc HB.out.size _).grown hg5 (by have := HB.out.size; simp; omega) (fun r e => by rw [← Option.some.inj e]; exact Nat.le_refl _), ?_⟩
        rw [← HSU2.out]
        exact hown5
      case measure => simp [intOf]; omega
    · obtain rfl : j = ps.length := by omega
      obtain ⟨_, ⟨q0, q1, q2, q3⟩, r0, r1, r2⟩ := HBX.out wr hB
      have HI := Lib.hid hI
      clear hB hI hj hlt
      go_wp2_with fail
      go_loopw [41] (fun i wx => ∃ (q c : Nat), q ≤ bs.length ∧ i = .int .i64 q ∧ Below w3.heap.size w3 wx ∧ OwnsII wx w3.heap.size ps.length (idxP ps ps.length ((bs.take q).flatMap (fun b => b.ids))) c ∧ c + ((bs.take q).flatMap (fun b => b.ids)).length = ps.length ∧ (∀ b ∈ bs.take q, GD b) ∧ ((bs.take q).flatMap (fun b => b.ids)).Nodup) (fun i _ => bs.length - (intOf i).toNat)
      case atStart => exact ⟨0, ps.length, Nat.zero_le _, rfl, HB.out, HI.out, by simp, by simp, by simp⟩
      case round =>
        clear q0 q1 q2 q3 r0 r1 r2
        obtain ⟨wo, hwo⟩ : ∃ x, x = wr := ⟨_, rfl⟩
        subst hwo
        obtain ⟨q, c, hq, rfl, hB, hI, hc, hgd, hnd⟩ := hrel
        have HB2 := Lib.hid hB
        have HGDS := Lib.hid hgd
        have HND := Lib.hid hnd
        have HC := Lib.hid hc
        clear hgd hnd hc
        by_cases hlt : q < bs.length
        · obtain ⟨g, off, rfl, hg, hcc⟩ := HCB.out (by omega)
          obtain ⟨s, hs, hcell⟩ := hcc q hlt
          have hbw : Below w.heap.size w wo := HB3.out.trans (hB.mono HB3.out.size)
          have hmb := List.getElem_mem hlt
          have htk : bs.take (q + 1) = bs.take q ++ [bs[q]] := List.take_succ_eq_append_getElem hlt
          have hpre : (bs.take (q + 1)).flatMap (fun b => b.ids) = (bs.take q).flatMap (fun b => b.ids) ++ bs[q].ids := by rw [htk, List.flatMap_append]; simp
          have hlen := HPL2.out _ hmb
          have hid2 := HID.out _ hmb
          have hat := fun (h : OK) p hp => HAT.out h q p hlt hp
          have hgdq := fun (h : OK) => HGD.out h _ hmb
          obtain ⟨b, hb⟩ : ∃ b, b = bs[q] := ⟨_, rfl⟩
          rw [← hb] at hs hcell htk hpre hlen hid2 hat hgdq
          have f0 : wo.cell? ⟨g, off + q * 4, none⟩ = some (.int .i64 b.lvl) := (hbw.cell (p := ⟨g, off + q * 4, none⟩) hg).trans (hcell 0 _ rfl)
          have f1 : wo.cell? ⟨g, off + q * 4 + 1, none⟩ = some (.string b.grp) := (hbw.cell (p := ⟨g, off + q * 4 + 1, none⟩) hg).trans (hcell 1 _ rfl)
          have f2 : wo.cell? ⟨g, off + q * 4 + 2, none⟩ = some s := (hbw.cell (p := ⟨g, off + q * 4 + 2, none⟩) hg).trans (hcell 2 _ rfl)
          have f3 : wo.cell? ⟨g, off + q * 4 + 3, none⟩ = some (.int .i64 b.grams) := (hbw.cell (p := ⟨g, off + q * 4 + 3, none⟩) hg).trans (hcell 3 _ rfl)
          obtain ⟨as1, cs', rfl, hsc⟩ := hs
          obtain ⟨pre, hpr⟩ : ∃ l, l = (bs.take q).flatMap (fun b => b.ids) := ⟨_, rfl⟩
          rw [← hpr] at hI hpre hat
          have HND' : Hid pre.Nodup := by rw [hpr]; exact HND
          have HC' : Hid (c + pre.length = ps.length) := by rw [hpr]; exact HC
          obtain ⟨Wt, hWt⟩ : ∃ W, W = wo.alloc (.cells #[.int .i64 b.lvl, .string b.grp, .slice as1 b.ids.length cs', .int .i64 b.grams] 47) := ⟨_, rfl⟩
          have hn := alloc_new wo (.cells #[.int .i64 b.lvl, .string b.grp, .slice as1 b.ids.length cs', .int .i64 b.grams] 47)
          have hbt : Below wo.heap.size wo Wt := by rw [hWt]; exact (Below.refl _ _).alloc (Nat.le_refl _) _
          rw [← hWt] at hn
          have HWT := Lib.hid hWt
          have HN := Lib.hid hn
          have HTK := Lib.hid htk
          have HPRE := Lib.hid hpre
          have HID2 := Lib.hid hid2
          have HAT2 := Lib.hid hat
          have HGDQ := Lib.hid hgdq
          have HSC := Lib.hid hsc
          have HIT := Lib.hid (hI.below hbt)
          have HB3T := Lib.hid (hB.trans (hbt.mono hB.size))
          have HGB := HGI.out b
          have HGBH := Lib.hid HGB
          obtain ⟨n0, n1, n2, n3⟩ := cells4 hn
          obtain ⟨_, ⟨q0, q1, q2, q3⟩, _⟩ := HBX.out Wt (hB.trans (hbt.mono hB.size))
          clear hb hcell hcc hWt hn htk hpre hid2 hat hgdq hsc hbw hbt hmb hB hI hpr HGB HND HC
          go_upto_region 10 with fail
          rw [← HWT.out]
          by_cases l1 : b.ids.length < 1
          · have hr : ¬ OK := fun h => by
              obtain ⟨I, _, e, _, e1, _⟩ := HGBH.out.1 (HGDQ.out h)
              have := congrArg List.length e
              rw [List.length_map] at this
              omega
            have HR := Lib.hid hr
            clear hr
            go_wp2_with fail
            go_ret
            exact ⟨_, rfl, HB3.out.trans (HB3T.out.mono HB3.out.size), IsB.no HR.out⟩
          · by_cases l2 : (b.ids.length : Int) > kp
            · have hr : ¬ OK := fun h => by
                obtain ⟨I, _, e, _, _, e1, _⟩ := HGBH.out.1 (HGDQ.out h)
                have := congrArg List.length e
                rw [List.length_map] at this
                omega
              have HR := Lib.hid hr
              clear hr
              go_wp2_with fail
              go_ret
              exact ⟨_, rfl, HB3.out.trans (HB3T.out.mono HB3.out.size), IsB.no HR.out⟩
            · go_wp2_with fail
              go_loopw [16, 60] (fun gr i wx => ∃ (p c' : Nat) (I : List Int), p ≤ b.ids.length ∧ i = .int .i64 p ∧ gr = .int .i64 (gramsOf ps I) ∧ I.length = p ∧ b.ids.take p = I.map (fun i => (pcAt ps i).id) ∧ (∀ i ∈ I, 0 ≤ i ∧ i.toNat < ps.length ∧ zs.getD i.toNat (-1) = b.lvl ∧ ns.getD i.toNat noB = b.grp) ∧ Below w3.heap.size w3 wx ∧ wx.heap[wo.heap.size]? = some (.cells #[.int .i64 b.lvl, .string b.grp, .slice as1 b.ids.length cs', .int .i64 b.grams] 47 (0, 0)) ∧ OwnsII wx w3.heap.size ps.length (idxP ps ps.length (pre ++ b.ids.take p)) c' ∧ c' + pre.length + p = ps.length ∧ (pre ++ b.ids.take p).Nodup) (fun _ i _ => b.ids.length - (intOf i).toNat)
              case atStart => exact ⟨0, c, [], Nat.zero_le _, rfl, rfl, rfl, by simp, by simp, HB3T.out, HN.out, by rw [List.take_zero, List.append_nil]; exact HIT.out, by have := HC'.out; omega, by rw [List.take_zero, List.append_nil]; exact HND'.out⟩
              case round =>
                clear n0 n1 n2 n3 f0 f1 f2 f3 q0 q1 q2 q3
                obtain ⟨wi, hwi⟩ : ∃ x, x = wr := ⟨_, rfl⟩
                subst hwi
                obtain ⟨p, c', I, hp, rfl, rfl, hIl, hIe, hIo, hB, hNb, hM, hcp, hnd⟩ := hrel
                have HBI := Lib.hid hB
                have HNB := Lib.hid hNb
                have HIL := Lib.hid hIl
                have HIE := Lib.hid hIe
                have HIO := Lib.hid hIo
                have HCP := Lib.hid hcp
                have HNDI := Lib.hid hnd
                have HM := Lib.hid hM
                have hgm := HGM.out I (fun i hi => ⟨(hIo i hi).1, (hIo i hi).2.1⟩)
                rw [hIl] at hgm
                obtain ⟨gr, hgr⟩ : ∃ x, x = gramsOf ps I := ⟨_, rfl⟩
                have HGR := Lib.hid hgr
                rw [← hgr] at hgm ⊢
                obtain ⟨n0, n1, n2, n3⟩ := cells4 hNb
                obtain ⟨⟨x0, x1, x2, x3⟩, ⟨y0, y1, y2, y3⟩, _⟩ := HBX.out wi hB
                clear hIl hIe hIo hcp hnd hNb hgr
                by_cases hlp : p < b.ids.length
                · obtain ⟨gs, os, rfl, hgs, hcs⟩ := HSC.out (by omega)
                  have hbw : Below w.heap.size w wi := HB3.out.trans (hB.mono HB3.out.size)
                  have e1 := (hbw.cell (p := ⟨gs, os + p, none⟩) hgs).trans (hcs p hlp)
                  have hidp := HID2.out _ (List.getElem_mem hlp)
                  have hat := fun h => HAT2.out h p hlp
                  have htk2 : b.ids.take (p + 1) = b.ids.take p ++ [b.ids[p]] := List.take_succ_eq_append_getElem hlp
                  obtain ⟨x, hx⟩ : ∃ x, x = b.ids[p] := ⟨_, rfl⟩
                  rw [← hx] at e1 hidp hat htk2
                  obtain ⟨P, hP⟩ : ∃ P, P = pre ++ b.ids.take p := ⟨_, rfl⟩
                  rw [← hP] at hat hM HM HNDI
                  have hpx : pre ++ b.ids.take (p + 1) = P ++ [x] := by rw [htk2, hP, List.append_assoc]
                  have HTK2 := Lib.hid htk2
                  have HPX := Lib.hid hpx
                  have HAT3 := Lib.hid hat
                  have HXI := Lib.hid hidp
                  have hpos := fun y => hM.pos (x := x) (y := y)
                  have HPOS := Lib.hid hpos
                  clear htk2 hpx hx hcs hP hpos
                  rcases idxP_cases HU.out (Nat.le_refl ps.length) P x with hno | ⟨j, hj, hje, hjp, hjs⟩
                  · have hr : ¬ OK := fun h => by
                      obtain ⟨j, a1, a2, a3, _⟩ := hat h
                      have := idxP_some HU.out (Nat.le_refl _) a1 (pre := P) (by rw [a2]; exact a3)
                      rw [a2, hno] at this
                      cases this
                    have HR := Lib.hid hr
                    have HNO := Lib.hid hno
                    clear hr hno hat hB hM
                    go_wp2_with (refine wpList_look_II _ rfl _ _ _ rfl Tryz.underlying43 w3.heap.size ps.length c' (idxP ps ps.length P) rfl HM.out x (WalkArith.wf_i64 (by omega)) rfl none HNO.out ?_)
                    go_quiet (fail)
                    go_wp2_with fail
                    go_ret
                    exact ⟨_, rfl, by first | exact below_drewN (HB3.out.trans (HBI.out.mono HB3.out.size)) _ | exact (HB3.out.trans (HBI.out.mono HB3.out.size)).drew, IsB.no HR.out⟩
                  · have hjz : j < zs.length := by rw [HZL.out]; exact hj
                    have hjn : j < ns.length := by rw [HNL.out]; exact hj
                    obtain ⟨gz, oz, rfl, hgz, hcz⟩ := HZC.out (by omega)
                    obtain ⟨gn, on', rfl, hgn, hcn⟩ := HNC.out (by omega)
                    obtain ⟨gp, op, rfl, hgp, hcp⟩ := HPC.out (by omega)
                    have e2 := (hbw.cell (p := ⟨gz, oz + j, none⟩) hgz).trans (hcz j hjz)
                    have e3 := (hbw.cell (p := ⟨gn, on' + j, none⟩) hgn).trans (hcn j hjn)
                    have hpe : pcAt ps (j : Int) = ps[j] := (pcAt_mem ⟨by omega, by rw [Int.toNat_natCast]; exact hj⟩).1
                    have hpg := HG.out _ (List.getElem_mem hj)
                    obtain ⟨_, _, _, e5, _⟩ := hcp j hj
                    have hzd : zs.getD j (-1) = zs[j] := by rw [List.getD_eq_getElem?_getD, List.getElem?_eq_getElem hjz]; rfl
                    have hnd : ns.getD j noB = ns[j] := by rw [List.getD_eq_getElem?_getD, List.getElem?_eq_getElem hjn]; rfl
                    have hsame : OK → zs.getD j (-1) = b.lvl ∧ ns.getD j noB = b.grp := fun h => by
                      obtain ⟨j', a1, a2, a3, a4⟩ := hat h
                      have h1 := idxP_some HU.out (Nat.le_refl _) a1 (pre := P) (by rw [a2]; exact a3)
                      rw [a2, hjs] at h1
                      have h2 : (j : Int) = (j' : Int) := Option.some.inj h1
                      obtain rfl : j = j' := by omega
                      exact a4
                    obtain ⟨z, hze⟩ : ∃ z, z = zs[j] := ⟨_, rfl⟩
                    obtain ⟨nm, hnme⟩ : ∃ z, z = ns[j] := ⟨_, rfl⟩
                    obtain ⟨pc, hpce⟩ : ∃ z, z = ps[j] := ⟨_, rfl⟩
                    rw [hzd, hnd, ← hze, ← hnme] at hsame
                    rw [← hze] at e2 hzd
                    rw [← hnme] at e3 hnd
                    rw [← hpce] at hpe hpg e5
                    have HSAME := Lib.hid hsame
                    have HZD := Lib.hid hzd
                    have HNDD := Lib.hid hnd
                    have HPE := Lib.hid hpe
                    have HJS := Lib.hid hjs
                    have HJP := Lib.hid hjp
                    have HJE := Lib.hid hje
                    have hc1 := HPOS.out _ hjs
                    obtain ⟨c2, rfl⟩ : ∃ c2, c' = c2 + 1 := ⟨c' - 1, by omega⟩
                    have HPC5 := Lib.hid (fun (W : World) (hW : Below w3.heap.size w3 W) => ((HB3.out.trans (hW.mono HB3.out.size)).cell (p := ⟨gp, op + j * 5 + 3, none⟩) hgp).trans e5)
                    clear hcz hcn hcp hpe hzd hnd hsame hze hnme hpce hjs hjp hje hat hc1 hbw hM e5
                    by_cases q1 : z = b.lvl
                    · have hbq : (z != b.lvl) = false := by simp [q1]
                      by_cases q2 : nm = b.grp
                      · have hbs : (nm.toList == b.grp.toList) = true := by rw [ba_eq]; exact decide_eq_true q2
                        have Q := Lib.hid (And.intro q1 q2)
                        clear q1 q2 hB
                        go_wp2_with (refine wpList_look_II _ rfl _ _ _ rfl Tryz.underlying43 w3.heap.size ps.length (c2 + 1) (idxP ps ps.length P) rfl HM.out x (WalkArith.wf_i64 (by omega)) rfl (some (j : Int)) HJS.out ?_)
                        go_quiet (fail)
                        obtain ⟨wd, hwd⟩ : ∃ wd, wd = wi.drewN nq := ⟨_, rfl⟩
                        rw [← hwd]
                        have hbd : Below wi.heap.size wi wd := by rw [hwd]; exact below_drewN (Below.refl _ _) _
                        have HMD := Lib.hid (HM.out.below hbd)
                        have HBD := Lib.hid (HBI.out.trans (hbd.mono HBI.out.size))
                        have HNBD := Lib.hid ((hbd.block _ (Array.getElem?_eq_some_iff.1 HNB.out).1).trans HNB.out)
                        clear hwd hbd n0 n1 n2 n3 x0 x1 x2 x3 y0 y1 y2 y3 e1 e2 e3
                        go_wp2_with (refine wpList_drop_II _ rfl _ _ _ rfl Tryz.underlying43 w3.heap.size ps.length c2 (idxP ps ps.length P) rfl HMD.out x (j : Int) (WalkArith.wf_i64 (by omega)) HJS.out rfl ?_; intro w5 hown5 hg5; have hb5 := HBD.out.grown hg5 HBD.out.size (fun r e => by rw [← Option.some.inj e]; exact Nat.le_refl _); obtain ⟨⟨x0, x1, x2, x3⟩, _, _⟩ := HBX.out w5 hb5; have e5 := HPC5.out w5 hb5)
                        go_roundw
                        case rel =>
                          have hc := HCP.out
                          have hil := HIL.out
                          refine ⟨p + 1, c2, I ++ [(j : Int)], by omega, by go_num, ?_, by rw [List.length_append, hil]; rfl, ?_, ?_, hb5, ?_, ?_, by omega, ?_⟩
                          · rw [gramsOf_snoc, HPE.out, ← HGR.out]
                          · rw [HTK2.out, HIE.out, List.map_append, List.map_cons, List.map_nil, HJE.out]
                          · intro i hi
                            rcases List.mem_append.1 hi with hi | hi
                            · exact HIO.out i hi
                            · rw [List.mem_singleton.1 hi, Int.toNat_natCast]
                              exact ⟨by omega, hj, by rw [HZD.out]; exact Q.out.1, by rw [HNDD.out]; exact Q.out.2⟩
                          · exact (hg5.block _ (Array.getElem?_eq_some_iff.1 HNBD.out).1 (fun e => HMD.out.ne HNBD.out (Option.some.inj e))).trans HNBD.out
                          · rw [HPX.out, ← idxP_drop HU.out (Nat.le_refl _)]
                            exact hown5
                          · rw [HPX.out]
                            exact nodup_snoc HNDI.out HJP.out
                        case measure => simp [intOf]; omega
                      · have hbs : (nm.toList == b.grp.toList) = false := by rw [ba_eq]; exact decide_eq_false q2
                        have hr : ¬ OK := fun h => q2 (HSAME.out h).2
                        have HR := Lib.hid hr
                        clear hr q1 q2 hB
                        go_wp2_with (refine wpList_look_II _ rfl _ _ _ rfl Tryz.underlying43 w3.heap.size ps.length (c2 + 1) (idxP ps ps.length P) rfl HM.out x (WalkArith.wf_i64 (by omega)) rfl (some (j : Int)) HJS.out ?_)
                        go_quiet (fail)
                        go_wp2_with fail
                        go_ret
                        exact ⟨_, rfl, by first | exact below_drewN (HB3.out.trans (HBI.out.mono HB3.out.size)) _ | exact (HB3.out.trans (HBI.out.mono HB3.out.size)).drew, IsB.no HR.out⟩
                    · have hbq : (z != b.lvl) = true := by simp [q1]
                      have hr : ¬ OK := fun h => q1 (HSAME.out h).1
                      have HR := Lib.hid hr
                      clear hr q1 hB
                      go_wp2_with (refine wpList_look_II _ rfl _ _ _ rfl Tryz.underlying43 w3.heap.size ps.length (c2 + 1) (idxP ps ps.length P) rfl HM.out x (WalkArith.wf_i64 (by omega)) rfl (some (j : Int)) HJS.out ?_)
                      go_quiet (fail)
                      go_wp2_with fail
                      go_ret
                      exact ⟨_, rfl, by first | exact below_drewN (HB3.out.trans (HBI.out.mono HB3.out.size)) _ | exact (HB3.out.trans (HBI.out.mono HB3.out.size)).drew, IsB.no HR.out⟩
                · obtain rfl : p = b.ids.length := by omega
                  rw [List.take_length] at HIE HM HNDI
                  have hsum := fun (h : OK) => HSU.out b (HGDQ.out h) I (fun i hi => ⟨(HIO.out i hi).1, (HIO.out i hi).2.1⟩) HIE.out
                  rw [← HGR.out] at hsum
                  have HSUM := Lib.hid hsum
                  clear hsum hM hB
                  by_cases q1 : gr = b.grams
                  · have hbq : (gr != b.grams) = false := by simp [q1]
                    by_cases q2 : gr > kg
                    · have hr : ¬ OK := fun h => by have := HSUM.out h; omega
                      have HR := Lib.hid hr
                      clear hr q1
                      go_wp2_with fail
                      go_ret
                      exact ⟨_, rfl, HB3.out.trans (HBI.out.mono HB3.out.size), IsB.no HR.out⟩
                    · have hgood : GD b := HGBH.out.2 ⟨I, HIO.out, HIE.out, by rw [← HGR.out]; exact q1, by have := HIL.out; omega, by have := HIL.out; omega, by omega⟩
                      have HGOOD := Lib.hid hgood
                      clear hgood q1
                      go_wp2_with fail
                      go_roundw
                      case rel =>
                        refine ⟨q + 1, c', by omega, by go_num, HBI.out, by rw [HPRE.out]; exact HM.out, by rw [HPRE.out, List.length_append]; have := HCP.out; omega, ?_, by rw [HPRE.out]; exact HNDI.out⟩
                        rw [HTK.out]
                        intro y hy
                        rcases List.mem_append.1 hy with hy | hy
                        · exact HGDS.out y hy
                        · rw [List.mem_singleton.1 hy]; exact HGOOD.out
                      case measure => simp [intOf]; omega
                  · have hbq : (gr != b.grams) = true := by simp [q1]
                    have hr : ¬ OK := fun h => q1 (HSUM.out h).1
                    have HR := Lib.hid hr
                    clear hr q1
                    go_wp2_with fail
                    go_ret
                    exact ⟨_, rfl, HB3.out.trans (HBI.out.mono HB3.out.size), IsB.no HR.out⟩
        · obtain rfl : q = bs.length := by omega
          rw [List.take_length] at HC HGDS HND
          have hok : c = 0 ↔ OK := by
            constructor
            · intro e
              exact HMK.out HGDS.out HND.out (by have := HC.out; omega)
            · intro h
              have h1 := HALL.out h
              have h2 := HC.out
              omega
          have HOK := Lib.hid hok
          have HI2 := Lib.hid hI
          clear hI hB hok
          go_wp2_with (refine wpList_len_II _ rfl _ _ rfl Tryz.underlying43 w3.heap.size ps.length c _ rfl HI2.out ?_)
          go_ret
          refine ⟨_, rfl, HB3.out.trans (HB2.out.mono HB3.out.size), IsB.of ?_⟩
          rw [← HOK.out]
          simp
          try omega
end Go.Proofs.YtelklmdlodgdpaaGreat
