/-
  tray.Check.
-/
import Derived.Test.YtelklmdlodgdpaaGreatTR
import Derived.Test.YtelklmdlodgdpaaGreatTP
import Derived.Test.YtelklmdlodgdpaaGreatTK
namespace Go.Proofs.YtelklmdlodgdpaaGreat
open Go.RowKit Go.Sort
set_option linter.unusedVariables false
set_option maxRecDepth 100000
theorem IsB.true {v : Value} {P : Prop} (h : IsB v P) (hp : P) : v = .bool .true := by
  obtain ⟨r, rfl, hr⟩ := h
  rw [hr.2 hp]
theorem IsB.false {v : Value} {P : Prop} (h : IsB v P) (hp : ¬ P) : v = .bool .false := by
  obtain ⟨r, rfl, hr⟩ := h
  cases r
  · rfl
  · exact absurd (hr.1 rfl) hp
theorem Tryz.infoSt : (Tryz.prog.info? 9).map (fun i => (i.zero, i.size, i.bytes)) = some (some (.string ⟨#[]⟩), 1, 16) := by kernel_rfl
/-- A row of texts. -/
def StrsAt (w : World) (g : Nat) (xs : List ByteArray) : Prop := w.heap[g]? = some (.cells (xs.map Value.string).toArray 9 (0, 0))
theorem StrsAt.lt {w : World} {g : Nat} {xs : List ByteArray} (h : StrsAt w g xs) : g < w.heap.size := (Array.getElem?_eq_some_iff.1 h).1
theorem StrsAt.below {w w' : World} {g B : Nat} {xs : List ByteArray} (h : StrsAt w g xs) (hb : Below B w w') (hg : g < B) : StrsAt w' g xs := (hb.block g hg).trans h
theorem StrsAt.free {w : World} {g : Nat} {xs : List ByteArray} (h : StrsAt w g xs) (i : Nat) : w.frozen? ⟨g, i, none⟩ = .false := by
  unfold StrsAt at h
  simp [World.frozen?, h]
theorem StrsAt.cell {w : World} {g : Nat} {xs : List ByteArray} (h : StrsAt w g xs) {i : Nat} (hi : i < xs.length) : w.cell? ⟨g, i, none⟩ = some (.string xs[i]) := by
  unfold StrsAt at h
  simp [World.cell?, h, hi]
theorem StrsAt.set {w : World} {g : Nat} {xs : List ByteArray} (h : StrsAt w g xs) (i : Nat) (x : ByteArray) : StrsAt (w.setCell ⟨g, i, none⟩ (.string x)) g (xs.set i x) := by
  have hl := h.lt
  unfold StrsAt at *
  simp only [World.setCell, Array.getElem?_modify, if_pos, h, Option.map_some, List.map_set]
  simp
theorem StrsAt.rd {w : World} {g : Nat} {xs : List ByteArray} (h : StrsAt w g xs) (cap : Nat) : ReadsT w (.slice (some ⟨g, 0, none⟩) xs.length cap) xs :=
  ⟨_, cap, rfl, fun _ => ⟨g, 0, rfl, h.lt, fun i hi => by rw [Nat.zero_add]; exact h.cell hi⟩⟩
theorem made_strs (w : World) (n : Nat) : StrsAt (w.alloc (.cells (madeCells #[Value.string ⟨#[]⟩] n) 9)) w.heap.size (List.replicate n noB) := by
  have e : madeCells #[Value.string ⟨#[]⟩] n = ((List.replicate n noB).map Value.string).toArray := by
    apply Array.toList_inj.1
    rw [toList_madeCells_one]
    simp [noB]
  unfold StrsAt
  rw [e]
  exact alloc_new w _
set_option maxHeartbeats 16000000 in
theorem check_no (ls : List Lev) (v vp vz vl : Value) (m : Mai) (zs : List Int) (k : Pck) (w : World) (hr : RdLevs w v ls) (hf : ∀ l ∈ ls, LevFits l) (hl : ls.length ≤ 100000) (hrp : RdPces w vp m.ps) (h8 : 0 ≤ m.cls ∧ m.cls ≤ 255 ∧ 0 ≤ m.ctr ∧ m.ctr ≤ 255)
    (hom : m.origin.size ≤ maxLen) (hml : m.ps.length ≤ 100000) (hcz : ∀ p ∈ m.ps, p.code.size ≤ maxLen) (hz : RdInts w vz zs) (hlz : zs.length ≤ 1000000) (hvl : ∃ b t c, vl = lodV b t c) (hne : allR ls m zs k ≠ 0) :
    Calls Tryz.prog 13 #[v, maiV m vp, vz, pckV k, vl] w fun e w' => e = .returned (.tuple #[.bool false, .int .i64 (allR ls m zs k)]) ∧ Below w.heap.size w w' := by
  have HAL := Lib.hid (fun W (hW : Below w.heap.size w W) => allowed_any ls v vp vz m zs k W (hr.below hW) hf hl (hrp.below hW) h8 hom hml hcz (hz.below hW) hlz)
  obtain ⟨A, hAA⟩ : ∃ A, A = allR ls m zs k := ⟨_, rfl⟩
  rw [← hAA] at HAL hne ⊢
  obtain ⟨lb, lt, lc, rfl⟩ := hvl
  unfold maiV pckV lodV at *
  obtain ⟨kp, kg, kb, kt⟩ := k
  obtain ⟨cls, ctr, org, ps⟩ := m
  dsimp only at *
  obtain ⟨w3, hw3⟩ : ∃ w3, w3 = ((w.alloc (.cells #[.int .u8 cls, .int .u8 ctr, .string org, vp] 29)).alloc (.cells #[.int .i64 kp, .int .i64 kg, .int .i64 kb, .int .i64 kt] 32)).alloc (.cells #[lb, lt, lc] 39) := ⟨_, rfl⟩
  obtain ⟨g1, g2, g3⟩ := boxes3 hw3
  have hb3 : Below w.heap.size w w3 := by
    rw [hw3]
    exact (((Below.refl _ w).alloc (Nat.le_refl _) _).alloc (by simp) _).alloc (by simp; omega) _
  obtain ⟨x0, x1, x2, x3⟩ := cells4 g1
  obtain ⟨y0, y1, y2, y3⟩ := cells4 g2
  have HW3 := Lib.hid hw3
  have HB3 := Lib.hid hb3
  have hq : (A != 0) = true := by simp [hne]
  clear hw3 hb3 g1 g2 g3 hAA hr hf hcz hz hrp hne
  go_enter Tryz.func13, Tryz.ntmps13
  go_upto_region 1 with fail
  rw [← HW3.out]
  go_wp2_with (go_at_call 22; refine (HAL.out _ HB3.out).mono ?_; rintro e w4 ⟨rfl, hb4⟩)
  go_ret2
  exact ⟨rfl, below_c HB3.out HB3.out.size hb4⟩
set_option maxHeartbeats 32000000 in
theorem check_ok {ls : List Lev} {m : Mai} (h : HasPlan ls m) (v vp vz vb vt vc : Value) (zs : List Int) (k : Pck) (l : Lod) (w : World) (hr : RdLevs w v ls) (hrp : RdPces w vp m.ps) (hz : RdInts w vz zs) (hzl : zs.length = m.ps.length) (hn : numsB ls.length zs = true) (hA : allR ls m zs k = 0)
    (hrl : RdLod w vb vt vc l) (hs : SmallL l) (hid : ∀ b ∈ l.buns, ∀ i ∈ b.ids, 0 ≤ i ∧ i ≤ 999999) :
    Calls Tryz.prog 13 #[v, maiV m vp, vz, pckV k, lodV vb vt vc] w fun e w' => ∃ u, e = .returned (.tuple #[u, .int .i64 0]) ∧ Below w.heap.size w w' ∧
      IsB u (LodOk k m.ps zs (nmTo zs (gAll ls (codesM m.ps) ls.length) m.ps.length (gAll ls (codesM m.ps) ls.length).length) l) := by
  have hpl := h.few
  have hll := right_len h.right
  have hgf := h.groups_few
  obtain ⟨hidg, hup⟩ := mail_ids h.mail
  have hcl : (codesM m.ps).length = m.ps.length := codesM_len _
  have hG : GrpsIn m.ps (gAll ls (codesM m.ps) ls.length) := gAll_in hcl
  have HAL := Lib.hid (fun W (hW : Below w.heap.size w W) => allowed_any ls v vp vz m zs k W (hr.below hW) (right_fits h.right) (by omega) (hrp.below hW) h.rng h.org (by omega) (fun p hp => by have := codeB_size ((mail_parts h.mail).2 p hp); unfold maxLen; omega) (hz.below hW) (by omega))
  rw [hA] at HAL
  have HGO := Lib.hid (fun W (hW : Below w.heap.size w W) => groupsOf_ok h (hr.below hW) (hrp.below hW))
  have hitl : ∀ x ∈ gAll ls (codesM m.ps) ls.length, x.items.length ≤ 2000 ∧ ∀ i ∈ x.items, 0 ≤ i ∧ i.toNat < m.ps.length := fun x hx => by
    refine ⟨?_, (hG.items x hx).2⟩
    obtain ⟨mm, n, _, _, rfl⟩ := mem_gAll.1 hx
    have := itm_len ls (codesM m.ps) mm n
    show (itm ls (codesM m.ps) mm n).length ≤ 2000
    omega
  obtain ⟨Gs, hGs⟩ : ∃ Gs, Gs = gAll ls (codesM m.ps) ls.length := ⟨_, rfl⟩
  rw [← hGs] at hgf HGO hitl ⊢
  have hnl := nmTo_len zs Gs m.ps.length Gs.length (Nat.le_refl _)
  have HBR := Lib.hid (fun W vn (hW : Below w.heap.size w W) (hn : ReadsT W vn (nmTo zs Gs m.ps.length Gs.length)) => bundlesRight_any k l m zs (nmTo zs Gs m.ps.length Gs.length) vp vz vn vb vt vc W (hrp.below hW) (hz.below hW) hn (hrl.below hW) hs hup hpl hzl hnl (fun p hp => by have := hidg p hp; omega) hid)
  have HTR := Lib.hid (fun W (hW : Below w.heap.size w W) => traysRight_any k l vb vt vc W (hrl.below hW) hs)
  have HCR := Lib.hid (fun W (hW : Below w.heap.size w W) => containersRight_any k l vb vt vc W (hrl.below hW) hs)
  have HNS := Lib.hid (fun q (hq : q < Gs.length) => nmTo_succ zs Gs m.ps.length hq)
  have HNL := Lib.hid (fun q (hq : q ≤ Gs.length) => nmTo_len zs Gs m.ps.length q hq)
  have HN0 : Hid (nmTo zs Gs m.ps.length 0 = List.replicate m.ps.length noB) := Lib.hid rfl
  have hOK : BunsOk k m.ps zs (nmTo zs Gs m.ps.length Gs.length) l.buns → TrasOk k l → ConsOk k l → LodOk k m.ps zs (nmTo zs Gs m.ps.length Gs.length) l := fun a b c => ⟨a, b, c⟩
  have hB1 : LodOk k m.ps zs (nmTo zs Gs m.ps.length Gs.length) l → BunsOk k m.ps zs (nmTo zs Gs m.ps.length Gs.length) l.buns := fun a => a.buns
  have hB2 : LodOk k m.ps zs (nmTo zs Gs m.ps.length Gs.length) l → TrasOk k l := fun a => a.tras
  have hB3 : LodOk k m.ps zs (nmTo zs Gs m.ps.length Gs.length) l → ConsOk k l := fun a => a.cons
  obtain ⟨PB, hPB⟩ : ∃ P, P = BunsOk k m.ps zs (nmTo zs Gs m.ps.length Gs.length) l.buns := ⟨_, rfl⟩
  obtain ⟨PT, hPT⟩ : ∃ P, P = TrasOk k l := ⟨_, rfl⟩
  obtain ⟨PC, hPC⟩ : ∃ P, P = ConsOk k l := ⟨_, rfl⟩
  obtain ⟨PL, hPL⟩ : ∃ P, P = LodOk k m.ps zs (nmTo zs Gs m.ps.length Gs.length) l := ⟨_, rfl⟩
  rw [← hPB] at HBR hOK hB1
  rw [← hPT] at HTR hOK hB2
  rw [← hPC] at HCR hOK hB3
  rw [← hPL] at hOK hB1 hB2 hB3 ⊢
  have HZ := Lib.hid hz
  obtain ⟨az, cz, rfl, hzc⟩ := hz
  obtain ⟨av, cv, rfl, _⟩ := hrp
  have HZC := Lib.hid hzc
  have HITL := Lib.hid hitl
  have HZL := Lib.hid hzl
  have HOK := Lib.hid (And.intro hOK (And.intro hB1 (And.intro hB2 hB3)))
  obtain ⟨nmF, hnm⟩ : ∃ f : Nat → List ByteArray, f = nmTo zs Gs m.ps.length := ⟨_, rfl⟩
  rw [← hnm] at HBR HNS HNL HN0
  clear hcl hG hidg hup hr hrl hs hid hn hA h hzc hOK hB1 hB2 hB3 hPB hPT hPC hPL hnm hitl hGs hnl hzl
  unfold maiV pckV lodV at *
  obtain ⟨kp, kg, kb, kt⟩ := k
  obtain ⟨cls, ctr, org, ps⟩ := m
  dsimp only at *
  obtain ⟨w3, hw3⟩ : ∃ w3, w3 = ((w.alloc (.cells #[.int .u8 cls, .int .u8 ctr, .string org, .slice av ps.length cv] 29)).alloc (.cells #[.int .i64 kp, .int .i64 kg, .int .i64 kb, .int .i64 kt] 32)).alloc (.cells #[vb, vt, vc] 39) := ⟨_, rfl⟩
  obtain ⟨g1, g2, g3⟩ := boxes3 hw3
  have hz3 : w3.heap.size = w.heap.size + 1 + 1 + 1 := by rw [hw3, World.size_alloc, World.size_alloc, World.size_alloc]
  have hb3 : Below w.heap.size w w3 := by
    rw [hw3]
    exact (((Below.refl _ w).alloc (Nat.le_refl _) _).alloc (by simp) _).alloc (by simp; omega) _
  have HBX := Lib.hid (fun (W : World) (hB : Below w3.heap.size w3 W) => And.intro (cells4 ((hB.block _ (by omega)).trans g1)) (And.intro (cells4 ((hB.block _ (by omega)).trans g2)) (cells3 ((hB.block _ (by omega)).trans g3))))
  have HW3 := Lib.hid hw3
  have HB3 := Lib.hid hb3
  clear hw3 hb3 hz3 g1 g2 g3
  obtain ⟨⟨x0, x1, x2, x3⟩, ⟨y0, y1, y2, y3⟩, _⟩ := HBX.out w3 (Below.refl _ _)
  go_enter Tryz.func13, Tryz.ntmps13
  go_upto_region 1 with fail
  rw [← HW3.out]
  go_upto_region 7 with (first
    | (go_at_call 22; refine (HAL.out _ HB3.out).mono ?_; rintro e w4 ⟨rfl, hb4⟩; obtain ⟨⟨p0, p1, p2, p3⟩, ⟨q0, q1, q2, q3⟩, _⟩ := HBX.out w4 hb4; have hw4 := HB3.out.trans (hb4.mono HB3.out.size))
    | (go_at_call 23; refine (HGO.out _ hw4).mono ?_; rintro e wg ⟨ag, cg, rfl, hbg, hrg⟩; have HBG3 := Lib.hid (hb4.trans (hbg.mono hb4.size)); have HBGW := Lib.hid (hw4.trans (hbg.mono hw4.size)); have HRG := Lib.hid hrg; clear hbg hrg))
  clear p0 p1 p2 p3 q0 q1 q2 q3 hb4 hw4 x0 x1 x2 x3 y0 y1 y2 y3
  obtain ⟨⟨x0, x1, x2, x3⟩, _, _⟩ := HBX.out wg HBG3.out
  have hmk := fun W => run_make_row' (P := Tryz.prog) 88 9 (.string ⟨#[]⟩) 16 Tryz.underlying88 Tryz.infoSt rfl .i64 .i64 ps.length (by omega) (by omega) W
  obtain ⟨w5, hw5⟩ : ∃ w5, w5 = wg.alloc (.cells (madeCells #[Value.string ⟨#[]⟩] ps.length) 9) := ⟨_, rfl⟩
  have hst : StrsAt w5 wg.heap.size (nmF 0) := by rw [hw5, HN0.out]; exact made_strs wg ps.length
  have hb5 : Below wg.heap.size wg w5 := by rw [hw5]; exact (Below.refl _ _).alloc (Nat.le_refl _) _
  have HST := Lib.hid hst
  have HB5 := Lib.hid hb5
  have HW5 := Lib.hid hw5
  clear hst hb5 hw5
  go_upto_region 8 with fail
  rw [← HW5.out]
  clear hmk x0 x1 x2 x3
  go_wp2_with fail
  go_loopw [43] (fun i wx => ∃ j : Nat, j ≤ Gs.length ∧ i = .int .i64 j ∧ Below wg.heap.size wg wx ∧ StrsAt wx wg.heap.size (nmF j)) (fun i _ => Gs.length - (intOf i).toNat)
  case atStart => exact ⟨0, Nat.zero_le _, rfl, HB5.out, HST.out⟩
  case round =>
    obtain ⟨wo, hwo⟩ : ∃ x, x = wr := ⟨_, rfl⟩
    subst hwo
    obtain ⟨j, hj, rfl, hB, hS⟩ := hrel
    have HB := Lib.hid hB
    have HS := Lib.hid hS
    by_cases hlt : j < Gs.length
    · obtain ⟨gg, og, rfl, hgg, hcg⟩ := RdGrps.lies HRG.out (by omega)
      obtain ⟨sv, hsv, hgat⟩ := hcg j hlt
      have hns := HNS.out j hlt
      have hnl := HNL.out j hj
      obtain ⟨hil, hit⟩ := HITL.out _ (List.getElem_mem hlt)
      obtain ⟨x, hx⟩ : ∃ x, x = Gs[j] := ⟨_, rfl⟩
      rw [← hx] at hsv hgat hns hil hit
      have hsv2 := hsv.below hB
      obtain ⟨asx, csx, hsf, hsx⟩ := id hsv
      subst hsf
      obtain ⟨g0, g1, g2, g3⟩ := hgat.below hB hgg
      obtain ⟨Wq, hWq⟩ : ∃ W, W = wo.alloc (.cells #[.int .i64 x.lvl, .string x.name, .int .i64 x.up, .slice asx x.items.length csx] 81) := ⟨_, rfl⟩
      have hbq : Below wo.heap.size wo Wq := by rw [hWq]; exact (Below.refl _ _).alloc (Nat.le_refl _) _
      have hNq : Wq.heap[wo.heap.size]? = some (.cells #[.int .i64 x.lvl, .string x.name, .int .i64 x.up, .slice asx x.items.length csx] 81 (0, 0)) := by rw [hWq]; exact alloc_new wo _
      have HWQ := Lib.hid hWq
      have HNQ := Lib.hid hNq
      have HBQ := Lib.hid (hB.trans (hbq.mono hB.size))
      have HSQ := Lib.hid (hS.below hbq hS.lt)
      have HNE : Hid (wo.heap.size ≠ wg.heap.size) := Lib.hid (fun e => by have := hS.lt; omega)
      have HSX := Lib.hid hsx
      have HIT := Lib.hid hit
      have HNS2 := Lib.hid hns
      have HNL2 := Lib.hid hnl
      obtain ⟨n0, n1, n2, n3⟩ := cells4 hNq
      clear hx hcg hgat hsv2 hWq hbq hNq hns hnl hit hsx hS hB hsv
      go_upto_region 11 with fail
      rw [← HWQ.out]
      go_wp2_with fail
      go_loopw [50] (fun i wx => ∃ p : Nat, p ≤ x.items.length ∧ i = .int .i64 p ∧ Below wg.heap.size wg wx ∧ wx.heap[wo.heap.size]? = some (.cells #[.int .i64 x.lvl, .string x.name, .int .i64 x.up, .slice asx x.items.length csx] 81 (0, 0)) ∧ StrsAt wx wg.heap.size (nmI zs x (nmF j) (x.items.take p))) (fun i _ => x.items.length - (intOf i).toNat)
      case atStart => exact ⟨0, Nat.zero_le _, rfl, HBQ.out, HNQ.out, HSQ.out⟩
      case round =>
        clear n0 n1 n2 n3 g0 g1 g2 g3
        obtain ⟨wi, hwi⟩ : ∃ x, x = wr := ⟨_, rfl⟩
        subst hwi
        obtain ⟨p, hp, rfl, hBi, hNi, hSi⟩ := hrel
        have HBI := Lib.hid hBi
        have HNI := Lib.hid hNi
        by_cases hlp : p < x.items.length
        · obtain ⟨gs, os, rfl, hgs, hcs⟩ := HSX.out (by omega)
          have e1 := (hBi.cell (p := ⟨gs, os + p, none⟩) hgs).trans (hcs p hlp)
          obtain ⟨i0, i1⟩ := HIT.out _ (List.getElem_mem hlp)
          have htk : x.items.take (p + 1) = x.items.take p ++ [x.items[p]] := List.take_succ_eq_append_getElem hlp
          have hsn := nmI_snoc zs x (nmF j) (x.items.take p) x.items[p]
          rw [← htk] at hsn
          obtain ⟨it, hite⟩ : ∃ it, it = x.items[p] := ⟨_, rfl⟩
          rw [← hite] at e1 i0 i1 hsn
          obtain ⟨q, rfl⟩ : ∃ q : Nat, it = (q : Int) := ⟨it.toNat, (Int.toNat_of_nonneg i0).symm⟩
          rw [Int.toNat_natCast] at i1
          unfold nmStep at hsn
          rw [Int.toNat_natCast] at hsn
          have hqz : q < zs.length := by rw [HZL.out]; exact i1
          obtain ⟨gz, oz, rfl, hgz, hcz⟩ := HZC.out (by omega)
          have e2 := ((HBGW.out.trans (hBi.mono HBGW.out.size)).cell (p := ⟨gz, oz + q, none⟩) hgz).trans (hcz q hqz)
          have hzd : zs.getD q (-1) = zs[q] := by rw [List.getD_eq_getElem?_getD, List.getElem?_eq_getElem hqz]; rfl
          rw [hzd] at hsn
          obtain ⟨z, hze⟩ : ∃ z, z = zs[q] := ⟨_, rfl⟩
          rw [← hze] at hsn e2
          have hnlq : q < (nmI zs x (nmF j) (x.items.take p)).length := by rw [nmI_len, HNL2.out]; exact i1
          obtain ⟨ns, hns⟩ : ∃ ns, ns = nmI zs x (nmF j) (x.items.take p) := ⟨_, rfl⟩
          rw [← hns] at hsn hSi hnlq
          have HSN := Lib.hid hsn
          have HSI := Lib.hid hSi
          have HNLQ := Lib.hid hnlq
          obtain ⟨n0, n1, n2, n3⟩ := cells4 hNi
          clear hcs htk hsn hite hcz hzd hze hns hnlq hNi hBi hSi
          by_cases hzl : z = x.lvl
          · have hbq : (z == x.lvl) = .true := by simp [hzl]
            have hst := HSN.out
            rw [if_pos hzl] at hst
            have HST2 := Lib.hid hst
            clear hst hzl
            go_wp2_with fail
            go_quiet (fail)
            obtain ⟨wd, hwd⟩ : ∃ wd, wd = wi.drewN nq := ⟨_, rfl⟩
            rw [← hwd]
            have hbd : Below wi.heap.size wi wd := by rw [hwd]; exact below_drewN (Below.refl _ _) _
            have hsd := HSI.out.below hbd HSI.out.lt
            have hnd := (hbd.block _ (Array.getElem?_eq_some_iff.1 HNI.out).1).trans HNI.out
            have c1 := hsd.cell HNLQ.out
            have c2 := hsd.free q
            obtain ⟨n0, n1, n2, n3⟩ := cells4 hnd
            have HSD := Lib.hid hsd
            have HND := Lib.hid hnd
            have HBD := Lib.hid (HBI.out.trans (hbd.mono HBI.out.size))
            clear hwd hbd hsd hnd e1 e2
            go_wp2_with fail
            go_roundw
            case rel =>
              refine ⟨p + 1, by omega, by go_num, HBD.out.setCell (p := ⟨wg.heap.size, q, none⟩) (Nat.le_refl _) _, (set_other HNE.out).trans HND.out, ?_⟩
              rw [HST2.out]
              exact HSD.out.set q _
            case measure => simp [intOf]; omega
          · have hbq : (z == x.lvl) = .false := by simp [hzl]
            have hst := HSN.out
            rw [if_neg hzl] at hst
            have HST2 := Lib.hid hst
            clear hst hzl
            go_wp2_with fail
            go_quiet (fail)
            obtain ⟨wd, hwd⟩ : ∃ wd, wd = wi.drewN nq := ⟨_, rfl⟩
            rw [← hwd]
            have hbd : Below wi.heap.size wi wd := by rw [hwd]; exact below_drewN (Below.refl _ _) _
            have HSD := Lib.hid (HSI.out.below hbd HSI.out.lt)
            have HND := Lib.hid ((hbd.block _ (Array.getElem?_eq_some_iff.1 HNI.out).1).trans HNI.out)
            have HBD := Lib.hid (HBI.out.trans (hbd.mono HBI.out.size))
            clear hwd hbd e1 e2
            go_wp2_with fail
            go_roundw
            case rel =>
              refine ⟨p + 1, by omega, by go_num, HBD.out, HND.out, ?_⟩
              rw [HST2.out]
              exact HSD.out
            case measure => simp [intOf]; omega
        · obtain rfl : p = x.items.length := by omega
          rw [List.take_length] at hSi
          have HSI := Lib.hid hSi
          clear hSi hBi hNi
          go_wp2_with fail
          go_roundw
          case rel => exact ⟨j + 1, by omega, by go_num, HBI.out, by rw [HNS2.out]; exact HSI.out⟩
          case measure => simp [intOf]; omega
    · obtain rfl : j = Gs.length := by omega
      have hwo : Below w.heap.size w wo := HBGW.out.trans (hB.mono HBGW.out.size)
      have h3o : Below w3.heap.size w3 wo := HBG3.out.trans (hB.mono HBG3.out.size)
      have hnl := HNL.out Gs.length (Nat.le_refl _)
      have hrd := hS.rd ps.length
      rw [hnl] at hrd
      have HWO := Lib.hid hwo
      have H3O := Lib.hid h3o
      have HRD := Lib.hid hrd
      clear hS hnl hrd hwo h3o hB hj hlt
      go_upto_region 18 with fail
      obtain ⟨⟨p0, p1, p2, p3⟩, ⟨q0, q1, q2, q3⟩, r0, r1, r2⟩ := HBX.out wo H3O.out
      by_cases hb : PB
      · have HPB := Lib.hid hb
        clear hb
        by_cases ht : PT
        · have HPT := Lib.hid ht
          clear ht
          by_cases hc : PC
          · have hy : PL := HOK.out.1 HPB.out HPT.out hc
            have HPC := Lib.hid hc
            have HY := Lib.hid hy
            clear hc hy
            go_wp2_with (first
              | (go_at_call 29; refine (HBR.out wo _ HWO.out HRD.out).mono ?_; rintro e w6 ⟨u, rfl, hb6, hu⟩; have hu := hu.true HPB.out; subst hu; have hw6 := HWO.out.trans (hb6.mono HWO.out.size); obtain ⟨_, ⟨s0, s1, s2, s3⟩, t0, t1, t2⟩ := HBX.out w6 (H3O.out.trans (hb6.mono H3O.out.size)))
              | (go_at_call 30; refine (HTR.out w6 hw6).mono ?_; rintro e w7 ⟨u, rfl, hb7, hu⟩; have hu := hu.true HPT.out; subst hu; have hw7 := hw6.trans (hb7.mono hw6.size); have h37 := H3O.out.trans ((hb6.trans (hb7.mono hb6.size)).mono H3O.out.size); obtain ⟨_, ⟨o0, o1, o2, o3⟩, v0, v1, v2⟩ := HBX.out w7 h37)
              | (go_at_call 31; refine (HCR.out w7 hw7).mono ?_; rintro e w8 ⟨u, rfl, hb8, hu⟩; have hu := hu.true HPC.out; subst hu))
            go_ret2
            exact ⟨_, rfl, hw7.trans (hb8.mono hw7.size), IsB.yes HY.out⟩
          · have hno : ¬ PL := fun h => hc (HOK.out.2.2.2 h)
            have HPC := Lib.hid hc
            have HNO := Lib.hid hno
            clear hc hno
            go_wp2_with (first
              | (go_at_call 29; refine (HBR.out wo _ HWO.out HRD.out).mono ?_; rintro e w6 ⟨u, rfl, hb6, hu⟩; have hu := hu.true HPB.out; subst hu; have hw6 := HWO.out.trans (hb6.mono HWO.out.size); obtain ⟨_, ⟨s0, s1, s2, s3⟩, t0, t1, t2⟩ := HBX.out w6 (H3O.out.trans (hb6.mono H3O.out.size)))
              | (go_at_call 30; refine (HTR.out w6 hw6).mono ?_; rintro e w7 ⟨u, rfl, hb7, hu⟩; have hu := hu.true HPT.out; subst hu; have hw7 := hw6.trans (hb7.mono hw6.size); have h37 := H3O.out.trans ((hb6.trans (hb7.mono hb6.size)).mono H3O.out.size); obtain ⟨_, ⟨o0, o1, o2, o3⟩, v0, v1, v2⟩ := HBX.out w7 h37)
              | (go_at_call 31; refine (HCR.out w7 hw7).mono ?_; rintro e w8 ⟨u, rfl, hb8, hu⟩; have hu := hu.false HPC.out; subst hu))
            go_ret2
            exact ⟨_, rfl, hw7.trans (hb8.mono hw7.size), IsB.no HNO.out⟩
        · have hno : ¬ PL := fun h => ht (HOK.out.2.2.1 h)
          have HPT := Lib.hid ht
          have HNO := Lib.hid hno
          clear ht hno
          go_wp2_with (first
            | (go_at_call 29; refine (HBR.out wo _ HWO.out HRD.out).mono ?_; rintro e w6 ⟨u, rfl, hb6, hu⟩; have hu := hu.true HPB.out; subst hu; have hw6 := HWO.out.trans (hb6.mono HWO.out.size); obtain ⟨_, ⟨s0, s1, s2, s3⟩, t0, t1, t2⟩ := HBX.out w6 (H3O.out.trans (hb6.mono H3O.out.size)))
            | (go_at_call 30; refine (HTR.out w6 hw6).mono ?_; rintro e w7 ⟨u, rfl, hb7, hu⟩; have hu := hu.false HPT.out; subst hu))
          go_ret2
          exact ⟨_, rfl, hw6.trans (hb7.mono hw6.size), IsB.no HNO.out⟩
      · have HNB := Lib.hid hb
        have hno : ¬ PL := fun h => hb (HOK.out.2.1 h)
        have HNO := Lib.hid hno
        clear hb hno
        go_wp2_with (go_at_call 29; refine (HBR.out wo _ HWO.out HRD.out).mono ?_; rintro e w6 ⟨u, rfl, hb6, hu⟩; have hu := hu.false HNB.out; subst hu)
        go_ret2
        exact ⟨_, rfl, below_c HWO.out HWO.out.size hb6, IsB.no HNO.out⟩
end Go.Proofs.YtelklmdlodgdpaaGreat
