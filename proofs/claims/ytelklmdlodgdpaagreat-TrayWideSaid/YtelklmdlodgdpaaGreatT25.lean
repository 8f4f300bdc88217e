/-
  TrayWide: the walk.
-/
import Derived.Test.YtelklmdlodgdpaaGreatGQ
import Derived.BigQuiet
import Derived.BigRegion
import Derived.Deep.RegionWith
import Derived.Deep.DeepCutAuto
namespace Go.Proofs.YtelklmdlodgdpaaGreat
open Go.RowKit Go.Sort
set_option linter.unusedVariables false
set_option maxRecDepth 100000
theorem conv_one {W : World} {H : Nat} (x : UInt8) (h : W.heap[H]? = some (.cells #[.int .u8 (x.toNat : Int)] 5 (0, 0))) : Sem.run Tryz.prog (convert 23 9 (.slice (some ⟨H, 0, none⟩) 1 1)) W = .ok (.string ⟨#[x]⟩) W := by
  refine run_convert_bytes_back (P := Tryz.prog) _ 23 9 5 ⟨H, 0, none⟩ 1 [x] Tryz.underlying23 Tryz.underlying5 Tryz.underlying9 (fun j hj => ?_)
  have ea : (⟨H, 0, none⟩ : Addr).add j = ⟨H, j, none⟩ := by unfold Addr.add; split <;> simp_all
  rw [ea, cell_of_row _ H j _ _ _ h]
  obtain rfl : j = 0 := by simp at hj; exact hj
  simp
set_option maxHeartbeats 32000000 in
theorem wide_walk (n : Int) (vl vc vs : Value) {ls : List Lev} {l : List UInt16} {k : Pck} {zs : List Int} {ns : List ByteArray} {L : Lod} (w : World) (hM : MadeB #[.int .u32 n, vl, vc, vs, .int .i64 300, .int .u32 0] ls l zs k w) (hP : PackB ls l zs ⟨2000, 1000000, 200, 200⟩ L) (hzl : zs.length = l.length) (h : Pkd kWide (mail24 l).ps zs ns L) (hl : l.length ≤ 300)
    (hm : mailB (mail24 l) = true) (hg : ∀ p ∈ (mail24 l).ps, p.grams ≤ 20) (hz6 : ∀ i, i < l.length → 0 ≤ zs.getD i (-1) ∧ zs.getD i (-1) < 6) (hns : ∀ i, i < l.length → (ns.getD i noB).size ≤ 100000)
    (hF : ∀ i, i < l.length → ∀ W v, RdLevs W v ls → Calls Tryz.prog 16 #[v, .int .i64 (zs.getD i (-1)), .string (pcAt (mail24 l).ps (i : Int)).code] W fun e w' => e = .returned (.tuple #[.string (ns.getD i noB), .int .i64 0]) ∧ Below W.heap.size W w') :
    Calls Tryz.prog 8 #[.int .u32 n, vl, vc, vs] w fun e w' => e = .returned (.bool true) ∧ Below w.heap.size w w' := by
  obtain ⟨hidg, hu⟩ := mail_ids hm
  have HAW := Lib.hid (fun W => awake26_any W)
  have HMD : Hid (MadeB #[.int .u32 n, vl, vc, vs, .int .i64 300, .int .u32 0] ls l zs k w) := hM
  have HPK : Hid (PackB ls l zs ⟨2000, 1000000, 200, 200⟩ L) := hP
  have hpn : (mail24 l).ps.length = l.length := ps24_len _ _
  have hlen := h.lens
  rw [hpn] at hlen
  obtain ⟨hlb, hlt, hlc⟩ := hlen
  have HIL : Hid (∀ q (hq : q < L.buns.length), L.buns[q].ids.length ≤ 300) := fun q hq => Nat.le_trans (part_le (f := fun b : Bun => b.ids) (n := l.length) (by rw [h.idn, hpn]; exact Nat.le_refl _) _ (List.getElem_mem hq)) hl
  have HH := Lib.hid h
  have HZL := Lib.hid hzl
  have HFI := Lib.hid hF
  have HNS := Lib.hid hns
  have HZ6 := Lib.hid hz6
  have hg20 : ∀ p ∈ (mail24 l).ps, p.grams ≤ 20 := hg
  obtain ⟨hkn, hks⟩ := wide_keys hu h (by rw [hpn]; exact hl) hg20 (fun i hi => hz6 i (by rw [← hpn]; exact hi))
  have HKN := Lib.hid hkn
  have HKS : Hid (∀ x, x ∈ L.buns.map (fun b => keyW b.lvl b.grp) ↔ ∃ i, i < l.length ∧ keyW (zs.getD i (-1)) (ns.getD i noB) = x) := fun x => by rw [hks x, hpn]
  have HTB : Hid (L.tras.length = L.buns.length) := wide_trays h (by rw [hpn]; exact hl) hg20
  have HCL : Hid (∀ x, x ∈ L.cons.map (fun c => c.lvl) ↔ ∃ i, i < l.length ∧ zs.getD i (-1) = x) := fun x => by rw [cons_levels hu h x, hpn]
  have HCA : Hid ((L.tras.length : Int) ≤ 200 → (L.cons.map (fun c => c.lvl)).Nodup) := fun h2 => cons_apart h h2
  have HNT : Hid (L.cons.flatMap (fun c => c.ts) = numsR 0 L.tras.length) := h.nt
  clear hkn hks hg20 hg hns
  obtain ⟨kp, kg, kb, kt⟩ := k
  obtain ⟨nl, hnl⟩ : ∃ z, z = ls.length := ⟨_, rfl⟩
  unfold MadeB at HMD
  unfold PackB at HPK
  rw [← hnl] at HMD
  dsimp only at HMD HPK
  have HPCS : ∀ j : Nat, j < l.length → ∃ p, p = pcAt (mail24 l).ps (j : Int) ∧ 0 < p.id ∧ p.id ≤ 999999 ∧ 1 ≤ p.grams ∧ p.grams ≤ 50000 := fun j hj => ⟨_, rfl, hidg _ (pcAt_memN (by rw [Int.toNat_natCast, hpn]; exact hj))⟩
  have HPC := Lib.hid HPCS
  have HU := Lib.hid hu
  have HPN := Lib.hid hpn
  clear hM hP hzl h hpn hnl hidg hu HPCS hm hF hz6
  go_enter Tryz.func8, Tryz.ntmps8
  go_wp2_with (first
    | (go_at_call 9; refine (HAW.out _).mono ?_; rintro e w1 ⟨rfl, hb1⟩)
    | (go_at_call 10; refine (HMD.out _ hb1).mono ?_; rintro e w2 ⟨al, cl, ap, cp, gz, rfl, hb2, hl2, hp2, hz2, hgz⟩; have hB2 : Below w.heap.size w w2 := hb1.trans (hb2.mono hb1.size)))
  obtain ⟨w3, hw3⟩ : ∃ w3, w3 = (w2.alloc (.cells #[.int .u8 1, .int .u8 1, .string ⟨#[49, 48, 48, 50, 51]⟩, .slice ap l.length cp] 29)).alloc (.cells #[.int .i64 kp, .int .i64 kg, .int .i64 kb, .int .i64 kt] 32) := ⟨_, rfl⟩
  rw [← hw3]
  obtain ⟨x1, x2, x3, hb23⟩ := boxes2 hw3
  refine (HPK.out w3 _ _ _ (hl2.reads.below hb23) ((RdPces.of_owns hp2).below hb23) ((rd_plan hz2 HZL.out).below hb23)).mono ?_
  rintro e w4 ⟨ab, cb, at', ct, ac, cc, rfl, hb4, hr4⟩
  have hB4 : Below w.heap.size w w4 := (hB2.trans (hb23.mono hB2.size)).trans (hb4.mono (Nat.le_trans hB2.size hb23.size))
  have hp5 := (RdPces.of_owns hp2).below (hb23.trans (hb4.mono hb23.size))
  have hx1 := (hb4.block _ (by omega)).trans x1
  have hx2 := (hb4.block _ (by omega)).trans x2
  have hs4 := hb4.size
  rw [x3] at hs4
  have hl4 : RdLevs w4 (.slice al nl cl) ls := (hl2.reads.below hb23).below hb4
  have hz4 : RdInts w4 (.slice (some ⟨gz, 0, none⟩) l.length l.length) zs := ((rd_plan hz2 HZL.out).below hb23).below hb4
  clear hw3 x1 x2 x3 hb23 hb4 hb1 hb2 hl2 hp2 hz2 hgz hB2 HMD HPK HAW
  go_upto_region 5 with fail
  obtain ⟨w5, hw5⟩ : ∃ w5, w5 = w4.alloc (.cells #[.slice ab L.buns.length cb, .slice at' L.tras.length ct, .slice ac L.cons.length cc] 39) := ⟨_, rfl⟩
  rw [← hw5]
  have hb45 : Below w4.heap.size w4 w5 := by rw [hw5]; exact (Below.refl _ _).alloc (Nat.le_refl _) _
  have hz5 : w5.heap.size = w4.heap.size + 1 := by rw [hw5, World.size_alloc]
  have h5 : w5.heap[w4.heap.size]? = some (.cells #[.slice ab L.buns.length cb, .slice at' L.tras.length ct, .slice ac L.cons.length cc] 39 (0, 0)) := by rw [hw5]; exact alloc_new w4 _
  obtain ⟨T, hT⟩ : ∃ T, T = w4.heap.size := ⟨_, rfl⟩
  obtain ⟨M, hM⟩ : ∃ M, M = w2.heap.size := ⟨_, rfl⟩
  rw [← hT] at h5 hz5 ⊢
  rw [← hM] at hx1 hx2 hs4 ⊢
  have HB5 : Hid (Below w.heap.size w w5) := hB4.trans (hb45.mono hB4.size)
  have HR : Hid (RdLod w5 (.slice ab L.buns.length cb) (.slice at' L.tras.length ct) (.slice ac L.cons.length cc) L) := hr4.below hb45
  have HP5 : Hid (RdPces w5 (.slice ap l.length cp) (mail24 l).ps) := hp5.below hb45
  have HL5 : Hid (RdLevs w5 (.slice al nl cl) ls) := hl4.below hb45
  have HZ5 : Hid (RdInts w5 (.slice (some ⟨gz, 0, none⟩) l.length l.length) zs) := hz4.below hb45
  have HTC : Hid (∀ W, Below w5.heap.size w5 W → (W.cell? ⟨T, 0, none⟩ = some (.slice ab L.buns.length cb) ∧ W.cell? ⟨T, 1, none⟩ = some (.slice at' L.tras.length ct) ∧ W.cell? ⟨T, 2, none⟩ = some (.slice ac L.cons.length cc)) ∧ (W.cell? ⟨M, 0, none⟩ = some (.int .u8 1) ∧ W.cell? ⟨M, 1, none⟩ = some (.int .u8 1) ∧ W.cell? ⟨M, 2, none⟩ = some (.string ⟨#[49, 48, 48, 50, 51]⟩) ∧ W.cell? ⟨M, 3, none⟩ = some (.slice ap l.length cp)) ∧ (W.cell? ⟨M + 1, 0, none⟩ = some (.int .i64 kp) ∧ W.cell? ⟨M + 1, 1, none⟩ = some (.int .i64 kg) ∧ W.cell? ⟨M + 1, 2, none⟩ = some (.int .i64 kb) ∧ W.cell? ⟨M + 1, 3, none⟩ = some (.int .i64 kt)) ∧ T < W.heap.size ∧ M + 1 < W.heap.size) := fun W hW => by
    have hwz := hW.size
    refine ⟨cells3 ((hW.block _ (by omega)).trans h5), cells4 (((hW.block _ (by omega)).trans (hb45.block _ (by omega))).trans hx1), cells4 (((hW.block _ (by omega)).trans (hb45.block _ (by omega))).trans hx2), by omega, by omega⟩
  have hTl : T < w5.heap.size := by omega
  clear hw5 hT hM h5 hz5 hb45 hB4 hr4 hp5 hx1 hx2 hs4 hl4 hz4
  have hmm1 := run_makeMapSB
  have hmm2 := run_makeMapIB
  go_upto_region 8 with fail
  obtain ⟨w9, hw9⟩ : ∃ w9, w9 = (w5.alloc (.map #[] 0)).alloc (.map #[] 0) := ⟨_, rfl⟩
  rw [← hw9]
  have hz8 : (w5.alloc (.map #[] 0)).heap.size = w5.heap.size + 1 := World.size_alloc _ _
  have hb8 : Below w5.heap.size w5 (w5.alloc (.map #[] 0)) := (Below.refl _ _).alloc (Nat.le_refl _) _
  have hb89 : Below (w5.alloc (.map #[] 0)).heap.size (w5.alloc (.map #[] 0)) w9 := by rw [hw9]; exact (Below.refl _ _).alloc (Nat.le_refl _) _
  have hIs : OwnsSetS w9 w5.heap.size 0 [] := (OwnsSet.made w5).below hb89
  have hIi : OwnsSetI w9 (w5.heap.size + 1) 0 [] := by
    have := OwnsSet.made (KT := 3) (lit := litI) (w5.alloc (.map #[] 0))
    rw [hz8, ← hw9] at this
    exact this
  have hB9 : Below w5.heap.size w5 w9 := hb8.trans (hb89.mono (by omega))
  obtain ⟨_, ⟨m0, m1, m2, m3⟩, _⟩ := HTC.out w9 hB9
  obtain ⟨Bs, hBs⟩ : ∃ B, B = w5.heap.size := ⟨_, rfl⟩
  rw [← hBs] at hIs hIi ⊢
  have HB9 := Lib.hid hB9
  have HIS := Lib.hid hIs
  have HII := Lib.hid hIi
  have HBS := Lib.hid hBs
  clear hmm1 hmm2 hw9 hz8 hb8 hb89 hB9 hIs hIi hBs
  go_wp2_with fail
  clear m0 m1 m2 m3
  go_loopw [51] (fun i wr => ∃ (j : Nat) (KS : List ByteArray) (KI : List Int), j ≤ l.length ∧ i = .int .i64 j ∧ Below w5.heap.size w5 wr ∧ OwnsSetS wr Bs j KS ∧ OwnsSetI wr (Bs + 1) j KI ∧ (∀ x, x ∈ KS ↔ ∃ i, i < j ∧ keyW (zs.getD i (-1)) (ns.getD i noB) = x) ∧ (∀ x, x ∈ KI ↔ ∃ i, i < j ∧ zs.getD i (-1) = x)) (fun i _ => l.length - (intOf i).toNat)
  case atStart => exact ⟨0, [], [], Nat.zero_le _, rfl, HB9.out, HIS.out, HII.out, fun x => ⟨fun h => (by cases h), fun ⟨i, h, _⟩ => (by omega)⟩, fun x => ⟨fun h => (by cases h), fun ⟨i, h, _⟩ => (by omega)⟩⟩
  case round =>
    obtain ⟨wq, hwq⟩ : ∃ x, x = wr := ⟨_, rfl⟩
    subst hwq
    obtain ⟨j, KS, KI, hj, rfl, hB5, hS, hI, hks, hki⟩ := hrel
    by_cases hlt2 : j < l.length
    · obtain ⟨g, off, rfl, hg, hat⟩ := HP5.out.atN (by rw [HPN.out]; omega)
      have hp := (hat j (by rw [HPN.out]; exact hlt2)).below hB5 hg
      obtain ⟨p, hpp, hp1, hp2, hp3, hp4⟩ := HPC.out j hlt2
      have hfi := HFI.out j hlt2
      rw [← hpp] at hp hfi
      obtain ⟨id, pt, cd, gr, br⟩ := p
      obtain ⟨p0, p1, p2, p3, p4⟩ := hp
      dsimp only at p0 p1 p2 p3 p4 hp1 hp2 hfi
      have hzl : j < zs.length := by rw [HZL.out]; exact hlt2
      obtain ⟨gz', oz', hgz, hgzl, hcz⟩ := HZ5.out.at (by omega)
      injection hgz with hgz
      injection hgz with hgz1 hgz2 _
      subst hgz1 hgz2
      have hzj := hcz j hzl
      rw [Nat.zero_add] at hzj
      have hze : zs.getD j (-1) = zs[j] := by rw [List.getD_eq_getElem?_getD, List.getElem?_eq_getElem hzl]; rfl
      have hz6 := HZ6.out j hlt2
      have hnsz := HNS.out j hlt2
      have HKS2 : Hid (∀ x, (x ∈ KS ∨ x = keyW (zs.getD j (-1)) (ns.getD j noB)) ↔ ∃ i, i < j + 1 ∧ keyW (zs.getD i (-1)) (ns.getD i noB) = x) := by
        intro x
        rw [hks x]
        constructor
        · rintro (⟨i, hi, h⟩ | h)
          · exact ⟨i, by omega, h⟩
          · exact ⟨j, by omega, h.symm⟩
        · rintro ⟨i, hi, h⟩
          by_cases e : i = j
          · subst e; exact .inr h.symm
          · exact .inl ⟨i, by omega, h⟩
      have HKI2 : Hid (∀ x, (x ∈ KI ∨ x = zs.getD j (-1)) ↔ ∃ i, i < j + 1 ∧ zs.getD i (-1) = x) := by
        intro x
        rw [hki x]
        constructor
        · rintro (⟨i, hi, h⟩ | h)
          · exact ⟨i, by omega, h⟩
          · exact ⟨j, by omega, h.symm⟩
        · rintro ⟨i, hi, h⟩
          by_cases e : i = j
          · subst e; exact .inr h.symm
          · exact .inl ⟨i, by omega, h⟩
      obtain ⟨nmj, hnm⟩ : ∃ z, z = ns.getD j noB := ⟨_, rfl⟩
      rw [← hnm] at hnsz hfi HKS2
      obtain ⟨z, hz⟩ : ∃ z, z = zs.getD j (-1) := ⟨_, rfl⟩
      rw [← hze, ← hz] at hzj
      rw [← hz] at hz6 hfi HKS2 HKI2
      have HFF := Lib.hid hfi
      have HZJ : Hid (∀ W, Below w5.heap.size w5 W → W.cell? ⟨gz, j, none⟩ = some (.int .i64 z)) := fun W hW => (hW.cell (p := ⟨gz, j, none⟩) hgzl).trans hzj
      have HBQ := Lib.hid hB5
      have HS := Lib.hid hS
      have HI := Lib.hid hI
      have zj0 := HZJ.out wq hB5
      have hgzq : gz < wq.heap.size := by have := hB5.size; omega
      clear hpp hat hfi hcz hzj hze hz hnm hzl hks hki hS hI hgzl
      go_upto_region 11 with fail
      obtain ⟨wb, hwb⟩ : ∃ x, x = wq.alloc (.cells #[.int .i64 id, .int .i64 pt, .string cd, .int .i64 gr, .bool br] 45) := ⟨_, rfl⟩
      rw [← hwb]
      have hbb : Below wq.heap.size wq wb := by rw [hwb]; exact (Below.refl _ _).alloc (Nat.le_refl _) _
      have hnb : wb.heap[wq.heap.size]? = some (.cells #[.int .i64 id, .int .i64 pt, .string cd, .int .i64 gr, .bool br] 45 (0, 0)) := by rw [hwb]; exact alloc_new wq _
      have hBb : Below w5.heap.size w5 wb := HBQ.out.trans (hbb.mono HBQ.out.size)
      have hSb := HS.out.below hbb
      have hIb := HI.out.below hbb
      obtain ⟨X, hX⟩ : ∃ X, X = wq.heap.size := ⟨_, rfl⟩
      rw [← hX] at hnb ⊢
      have x2 := cell_of_row _ _ 2 _ _ _ hnb
      simp only [List.getElem?_toArray, List.getElem?_cons_zero, List.getElem?_cons_succ] at x2
      have zj1 := HZJ.out wb hBb
      have HBB := Lib.hid hBb
      have HSB := Lib.hid hSb
      have HIB := Lib.hid hIb
      have HL6 : Hid (RdLevs wb.drew (.slice al nl cl) ls) := HL5.out.below hBb.drew
      clear hwb hbb hnb hBb hSb hIb hX p0 p1 p2 p3 p4 zj0 hgzq HS HI HBQ
      go_region_with (go_at_call 16; refine (HFF.out _ _ HL6.out).mono ?_; rintro e we ⟨rfl, hbe⟩)
      all_goals
        have hBe : Below w5.heap.size w5 we := HBB.out.drew.trans (hbe.mono HBB.out.size)
        have HSE := Lib.hid ((HSB.out.below (Below.refl _ wb).drew).below hbe)
        have HIE := Lib.hid ((HIB.out.below (Below.refl _ wb).drew).below hbe)
        clear zj1 x2 hbe
        have zj2 := HZJ.out we hBe
        obtain ⟨zb, hzb⟩ : ∃ zb, zb = UInt8.ofNat (48 + z.toNat) := ⟨_, rfl⟩
        have hzb2 : 48 + z = ((zb.toNat : Nat) : Int) := by rw [hzb, UInt8.toNat_ofNat']; omega
        have hzb3 : IntKind.u8.wrap (48 + z) = ((zb.toNat : Nat) : Int) := by rw [← hzb2]; simp [IntKind.wrap, IntKind.bits, IntKind.signed]; omega
        have hzb4 : zb.toNat < 256 := zb.toNat_lt
        have hkw : keyW z nmj = (⟨#[zb]⟩ : ByteArray) ++ nmj := by rw [hzb]; rfl
        have hcv := conv_one (W := we.alloc (.cells #[.int .u8 (zb.toNat : Int)] 5)) zb (alloc_new we _)
        have zj3 := HZJ.out (we.alloc (.cells #[.int .u8 (zb.toNat : Int)] 5)) (hBe.alloc hBe.size _)
        have HBE := Lib.hid hBe
        have HKW := Lib.hid hkw
        clear hzb hBe hkw
        have HSX := Lib.hid (HSE.out.below ((Below.refl _ we).alloc (Nat.le_refl _) (.cells #[.int .u8 (zb.toNat : Int)] 5)))
        have HIX := Lib.hid (HIE.out.below ((Below.refl _ we).alloc (Nat.le_refl _) (.cells #[.int .u8 (zb.toNat : Int)] 5)))
        have HBA := Lib.hid (HBE.out.alloc HBE.out.size (.cells #[.int .u8 (zb.toNat : Int)] 5))
        go_wp2_with (first
          | (refine wpList_update_SI _ rfl _ _ _ _ rfl Tryz.underlying66 (Bs + 1) j KI rfl HIK.out (by unfold maxLen; omega) z (WalkArith.wf_i64 (by omega)) rfl rfl ?_; intro w11 KI2 hI2 hk3 hg3; have HI2 := Lib.hid hI2; have HK3 := Lib.hid hk3; clear hI2 hk3)
          | (refine wpList_update_SS _ rfl _ _ _ _ rfl Tryz.underlying65 Bs j KS rfl HSX.out (by unfold maxLen; omega) ((⟨#[zb]⟩ : ByteArray) ++ nmj) (by rw [ByteArray.size_append]; have h1 : (⟨#[zb]⟩ : ByteArray).size = 1 := rfl; unfold maxLen; omega) rfl rfl ?_; intro w10 KS2 hS2 hk2 hg2; have HIK := Lib.hid (HIX.out.kept hg2 (by intro e; have := Option.some.inj e; omega)); have HS2 := Lib.hid hS2; have HK2 := Lib.hid hk2; have HB10 := Lib.hid (HBA.out.grown hg2 HBA.out.size (fun r e => by rw [← Option.some.inj e, HBS.out]; exact Nat.le_refl _)); have zj4 := HZJ.out w10 HB10.out; clear hS2 hk2))
        go_roundw
        case rel =>
          refine ⟨j + 1, KS2, KI2, by omega, by go_num, HB10.out.grown hg3 HB10.out.size (fun r e => by rw [← Option.some.inj e, HBS.out]; exact Nat.le_succ _), HS2.out.kept hg3 (by intro e; have := Option.some.inj e; omega), HI2.out, fun x => ?_, fun x => (HK3.out x).trans (HKI2.out x)⟩
          rw [HK2.out x, ← HKW.out]
          exact HKS2.out x
        case measure => simp [intOf]; omega
    · obtain rfl : j = l.length := by omega
      obtain ⟨⟨t0, t1, t2⟩, _⟩ := HTC.out wq hB5
      have hKL : KS.length = L.buns.length := by
        obtain ⟨D, _, _, hnd, _⟩ := id hS
        have := nodup_same hnd HKN.out (fun x => (hks x).trans (HKS.out x).symm)
        rw [this, List.length_map]
      have hKI1 : KI.length ≤ L.cons.length := by
        obtain ⟨D, _, _, hnd, _⟩ := id hI
        have := nodup_le _ (L.cons.map (fun c => c.lvl)) hnd (fun x hx => (HCL.out x).2 ((hki x).1 hx))
        rwa [List.length_map] at this
      have hKI2 : (L.tras.length : Int) ≤ 200 → L.cons.length = KI.length := fun ht => by
        obtain ⟨D, _, _, hnd, _⟩ := id hI
        have := nodup_same (HCA.out ht) hnd (fun x => (HCL.out x).trans (hki x).symm)
        rwa [List.length_map] at this
      have HBQ := Lib.hid hB5
      have HS := Lib.hid hS
      have HI := Lib.hid hI
      have HKL := Lib.hid hKL
      have HKI1 := Lib.hid hKI1
      have HKI2 := Lib.hid hKI2
      clear hB5 hS hI hks hki hlt2 hj HIS HII HB9 hKL hKI1 hKI2
      go_wp2_with fail
      clear t0 t1 t2
      go_loopw [21, 89] (fun a i wr => ∃ q : Nat, q ≤ L.cons.length ∧ i = .int .i64 q ∧ a = .int .i64 (((L.cons.take q).flatMap (fun c => c.ts)).length : Nat) ∧ Below wq.heap.size wq wr) (fun _ i _ => L.cons.length - (intOf i).toNat)
      case atStart => exact ⟨0, Nat.zero_le _, rfl, rfl, Below.refl _ _⟩
      case round =>
        obtain ⟨wp, hwp⟩ : ∃ x, x = wr := ⟨_, rfl⟩
        subst hwp
        obtain ⟨q, hq, rfl, rfl, hB⟩ := hrel
        have hB5 := HBQ.out.trans (hB.mono HBQ.out.size)
        by_cases hql : q < L.cons.length
        · obtain ⟨g, off, rfl, hg, hcg⟩ := HR.out.c.at (by omega)
          obtain ⟨sb, scb, hri, hcell⟩ := hcg q hql
          have e0 := (hB5.cell (p := ⟨g, off + q * 2 + 0, none⟩) hg).trans (hcell 0 _ rfl)
          have e1 := (hB5.cell (p := ⟨g, off + q * 2 + 1, none⟩) hg).trans (hcell 1 _ rfl)
          rw [Nat.add_zero] at e0
          have hsu := flat_succ (fun t => t.ts) L.cons hql
          have htk := take_flat (fun t => t.ts) L.cons (q + 1)
          rw [HNT.out, numsR_len] at htk
          dsimp only at e0 e1 hri hsu htk
          obtain ⟨o, ho⟩ : ∃ o, o = ((L.cons.take q).flatMap (fun t => t.ts)).length := ⟨_, rfl⟩
          rw [← ho] at hsu ⊢
          rw [hsu] at htk
          obtain ⟨bn, hbn⟩ : ∃ z, z = L.cons[q] := ⟨_, rfl⟩
          have HSU := Lib.hid hsu
          rw [← hbn] at e0 e1 htk HSU
          obtain ⟨lv, I⟩ := bn
          dsimp only at e0 e1 htk HSU
          have hob : o + I.length ≤ 300 := by omega
          have HBX : Hid (∀ u : Obj, Below wq.heap.size wq (wp.alloc u)) := fun u => hB.alloc hB.size u
          clear hcg hcell hri hsu htk hbn ho hB hB5
          go_wp2_with fail
          go_roundw
          case rel => exact ⟨q + 1, by omega, by go_num, by rw [HSU.out]; go_num, HBX.out _⟩
          case measure => simp [intOf]; omega
        · obtain rfl : q = L.cons.length := by omega
          obtain ⟨⟨t0, t1, t2⟩, _⟩ := HTC.out wp hB5
          have hfl : ((L.cons.take L.cons.length).flatMap (fun t => t.ts)).length = L.buns.length := by rw [List.take_length, HNT.out, numsR_len, HTB.out]; omega
          have h1 := HKI1.out
          have h2 := HKI2.out
          have hls := (HS.out.below hB).len (t := 65) Tryz.underlying65 3
          have hli := (HI.out.below hB).len (t := 66) Tryz.underlying66 3
          rw [HKL.out] at hls
          rw [HTB.out] at t1 h2
          rw [hfl]
          have HBP := Lib.hid hB5
          obtain ⟨N, hN⟩ : ∃ N, N = L.buns.length := ⟨_, rfl⟩
          obtain ⟨C, hC⟩ : ∃ C, C = L.cons.length := ⟨_, rfl⟩
          obtain ⟨E, hE⟩ : ∃ E, E = KI.length := ⟨_, rfl⟩
          rw [← hN] at hls t0 t1 h2 ⊢
          rw [← hC] at h1 h2 t2 ⊢
          rw [← hE] at h1 h2 hli
          clear hfl hN hC hE hB hB5 hql hq
          by_cases h3 : 200 < N
          · have hd1 : decide ((200 : Int) < (N : Int)) = true := decide_eq_true (by omega)
            have hd2 : decide ((E : Int) ≤ (C : Int)) = true := decide_eq_true (by omega)
            clear h2 h3
            go_wp2_with fail
            go_ret
            exact ⟨rfl, HB5.out.trans (HBP.out.mono HB5.out.size)⟩
          · have hd1 : decide ((200 : Int) < (N : Int)) = false := decide_eq_false (by omega)
            obtain rfl : C = E := h2 (by omega)
            clear h2 h3
            go_wp2_with fail
            go_ret
            exact ⟨rfl, HB5.out.trans (HBP.out.mono HB5.out.size)⟩
end Go.Proofs.YtelklmdlodgdpaaGreat
