/-
  TrayOrder: the walk.
-/
import Derived.Test.YtelklmdlodgdpaaGreatGP
import Derived.BigQuiet
import Derived.BigRegion
import Derived.Deep.DeepCutAuto
namespace Go.Proofs.YtelklmdlodgdpaaGreat
open Go.RowKit Go.Sort
set_option linter.unusedVariables false
set_option maxRecDepth 100000
set_option maxHeartbeats 16000000 in
theorem order_walk (n b : Int) (vl vc vs : Value) {ls : List Lev} {l : List UInt16} {zs : List Int} {k : Pck} {L : Lod} {ns : List ByteArray} (w : World) (hM : MadeB #[.int .u32 n, vl, vc, vs, .int .i64 300, .int .u32 b] ls l zs k w) (hP : PackB ls l zs k L) (hzl : zs.length = l.length) (h : Pkd k (mail24 l).ps zs ns L) (hl : l.length ≤ 300) :
    Calls Tryz.prog 4 #[.int .u32 n, vl, vc, vs, .int .u32 b] w fun e w' => e = .returned (.bool true) ∧ Below w.heap.size w w' := by
  have HAW := Lib.hid (fun W => awake26_any W)
  have HMD : Hid (MadeB #[.int .u32 n, vl, vc, vs, .int .i64 300, .int .u32 b] ls l zs k w) := hM
  have HPK : Hid (PackB ls l zs k L) := hP
  have hpn : (mail24 l).ps.length = l.length := ps24_len _ _
  have hlen := h.lens
  rw [hpn] at hlen
  obtain ⟨hlb, hlt, hlc⟩ := hlen
  have HIL : Hid (∀ q (hq : q < L.buns.length), L.buns[q].ids.length ≤ 300) := fun q hq => Nat.le_trans (part_le (f := fun b : Bun => b.ids) (n := l.length) (by rw [h.idn, hpn]; exact Nat.le_refl _) _ (List.getElem_mem hq)) hl
  have HH := Lib.hid h
  have HZL := Lib.hid hzl
  obtain ⟨kp, kg, kb, kt⟩ := k
  obtain ⟨nl, hnl⟩ : ∃ z, z = ls.length := ⟨_, rfl⟩
  unfold MadeB at HMD
  unfold PackB at HPK
  rw [← hnl] at HMD
  dsimp only at HMD HPK
  clear hM hP hzl h hpn hnl
  go_enter Tryz.func4, Tryz.ntmps4
  go_wp2_with (first
    | (go_at_call 9; refine (HAW.out _).mono ?_; rintro e w1 ⟨rfl, hb1⟩)
    | (go_at_call 10; refine (HMD.out _ hb1).mono ?_; rintro e w2 ⟨al, cl, ap, cp, gz, rfl, hb2, hl2, hp2, hz2, hgz⟩; have hB2 : Below w.heap.size w w2 := hb1.trans (hb2.mono hb1.size)))
  obtain ⟨w3, hw3⟩ : ∃ w3, w3 = (w2.alloc (.cells #[.int .u8 1, .int .u8 1, .string ⟨#[49, 48, 48, 50, 51]⟩, .slice ap l.length cp] 29)).alloc (.cells #[.int .i64 kp, .int .i64 kg, .int .i64 kb, .int .i64 kt] 32) := ⟨_, rfl⟩
  rw [← hw3]
  obtain ⟨x1, x2, x3, hb23⟩ := boxes2 hw3
  refine (HPK.out w3 _ _ _ (hl2.reads.below hb23) ((RdPces.of_owns hp2).below hb23) ((rd_plan hz2 HZL.out).below hb23)).mono ?_
  rintro e w4 ⟨ab, cb, at', ct, ac, cc, rfl, hb4, hr4⟩
  have hB4 : Below w.heap.size w w4 := (hB2.trans (hb23.mono hB2.size)).trans (hb4.mono (Nat.le_trans hB2.size hb23.size))
  clear hw3 x1 x2 x3 hb23 hb4 hb1 hb2 hl2 hp2 hz2 hgz hB2 HMD HPK HAW
  go_upto_region 7 with fail
  obtain ⟨w5, hw5⟩ : ∃ w5, w5 = w4.alloc (.cells #[.slice ab L.buns.length cb, .slice at' L.tras.length ct, .slice ac L.cons.length cc] 39) := ⟨_, rfl⟩
  rw [← hw5]
  have hb45 : Below w4.heap.size w4 w5 := by rw [hw5]; exact (Below.refl _ _).alloc (Nat.le_refl _) _
  have hz5 : w5.heap.size = w4.heap.size + 1 := by rw [hw5, World.size_alloc]
  have h5 : w5.heap[w4.heap.size]? = some (.cells #[.slice ab L.buns.length cb, .slice at' L.tras.length ct, .slice ac L.cons.length cc] 39 (0, 0)) := by rw [hw5]; exact alloc_new w4 _
  obtain ⟨T, hT⟩ : ∃ T, T = w4.heap.size := ⟨_, rfl⟩
  rw [← hT] at h5 hz5 ⊢
  have HB5 : Hid (Below w.heap.size w w5) := hB4.trans (hb45.mono hB4.size)
  have HR : Hid (RdLod w5 (.slice ab L.buns.length cb) (.slice at' L.tras.length ct) (.slice ac L.cons.length cc) L) := hr4.below hb45
  have HTC : Hid (∀ W, Below w5.heap.size w5 W → W.cell? ⟨T, 0, none⟩ = some (.slice ab L.buns.length cb) ∧ W.cell? ⟨T, 1, none⟩ = some (.slice at' L.tras.length ct) ∧ W.cell? ⟨T, 2, none⟩ = some (.slice ac L.cons.length cc)) := fun W hW => cells3 ((hW.block _ (by omega)).trans h5)
  have hTl : T < w5.heap.size := by omega
  clear hw5 hT h5 hz5 hb45 hB4 hr4
  obtain ⟨t0, t1, t2⟩ := HTC.out w5 (Below.refl _ _)
  go_wp2_with fail
  clear t0 t1 t2
  go_loopw [58] (fun i wr => ∃ j : Nat, j ≤ L.buns.length ∧ i = .int .i64 j ∧ Below w5.heap.size w5 wr) (fun i _ => L.buns.length - (intOf i).toNat)
  case atStart => exact ⟨0, Nat.zero_le _, rfl, Below.refl _ _⟩
  case round =>
    obtain ⟨wo, hwo⟩ : ∃ x, x = wr := ⟨_, rfl⟩
    subst hwo
    obtain ⟨j, hj, rfl, hB⟩ := hrel
    by_cases hlt2 : j < L.buns.length
    · obtain ⟨g, off, rfl, hg, hcg⟩ := HR.out.b.at (by omega)
      obtain ⟨sb, scb, hri, hcell⟩ := hcg j hlt2
      have e0 := (hB.cell (p := ⟨g, off + j * 4 + 0, none⟩) hg).trans (hcell 0 _ rfl)
      have e1 := (hB.cell (p := ⟨g, off + j * 4 + 1, none⟩) hg).trans (hcell 1 _ rfl)
      have e2 := (hB.cell (p := ⟨g, off + j * 4 + 2, none⟩) hg).trans (hcell 2 _ rfl)
      have e3 := (hB.cell (p := ⟨g, off + j * 4 + 3, none⟩) hg).trans (hcell 3 _ rfl)
      have hown := HH.out.own _ (List.getElem_mem hlt2)
      have hbil := HIL.out j hlt2
      rw [Nat.add_zero] at e0
      dsimp only at e0 e1 e2 e3 hri
      have HPRE : Hid (∀ q (hq : q < L.buns.length) (hqj : q + 1 = j), BunLe L.buns[q] L.buns[j] ∧ L.buns[q].ids ≠ [] ∧ ∃ sa sca, RdInts w5 (.slice sa L.buns[q].ids.length sca) L.buns[q].ids ∧ ∀ i u, (bunCell (L.buns[q], .slice sa L.buns[q].ids.length sca))[i]? = some u → w5.cell? ⟨g, off + q * 4 + i, none⟩ = some u) := fun q hq hqj => by
        obtain ⟨sa, sca, h1, h2⟩ := hcg q hq
        exact ⟨List.pairwise_iff_getElem.1 HH.out.ord q j hq hlt2 (by omega), (HH.out.own _ (List.getElem_mem hq)).1, sa, sca, h1, h2⟩
      obtain ⟨bn, hbn⟩ : ∃ z, z = L.buns[j] := ⟨_, rfl⟩
      rw [← hbn] at e0 e1 e2 e3 hri hown hbil
      have HPR2 : Hid (∀ q (hq : q < L.buns.length) (hqj : q + 1 = j), BunLe L.buns[q] bn ∧ L.buns[q].ids ≠ [] ∧ ∃ sa sca, RdInts w5 (.slice sa L.buns[q].ids.length sca) L.buns[q].ids ∧ ∀ i u, (bunCell (L.buns[q], .slice sa L.buns[q].ids.length sca))[i]? = some u → w5.cell? ⟨g, off + q * 4 + i, none⟩ = some u) := by rw [hbn]; exact HPRE.out
      obtain ⟨lv, gr, ids, gm⟩ := bn
      dsimp only at e0 e1 e2 e3 hri hown HPR2 hbil
      have HRI := Lib.hid hri
      have HOWN := Lib.hid hown
      clear hbn HPRE hcg hcell hri hown
      go_upto_if 64 with fail
      obtain ⟨wb, hwb⟩ : ∃ x, x = wo.alloc (.cells #[.int .i64 lv, .string gr, .slice sb ids.length scb, .int .i64 gm] 47) := ⟨_, rfl⟩
      rw [← hwb]
      have hbb : Below wo.heap.size wo wb := by rw [hwb]; exact (Below.refl _ _).alloc (Nat.le_refl _) _
      have hzb : wb.heap.size = wo.heap.size + 1 := by rw [hwb, World.size_alloc]
      have hnb : wb.heap[wo.heap.size]? = some (.cells #[.int .i64 lv, .string gr, .slice sb ids.length scb, .int .i64 gm] 47 (0, 0)) := by rw [hwb]; exact alloc_new wo _
      have hBb : Below w5.heap.size w5 wb := hB.trans (hbb.mono hB.size)
      obtain ⟨X, hX⟩ : ∃ X, X = wo.heap.size := ⟨_, rfl⟩
      rw [← hX] at hnb hzb ⊢
      have HNB := Lib.hid hnb
      have HX := Lib.hid hX
      clear hwb hbb hnb hB e0 e1 e2 e3 hX
      go_cut [19] from 63 to 109 (fun z wx => ∃ z0 : Int, z = .int .i64 z0 ∧ (∀ q (hq : q < ids.length), z0 < ids[q]) ∧ Below wb.heap.size wb wx)
      case first =>
        obtain ⟨f0, f1, f2, f3⟩ := cells4 HNB.out
        by_cases hj0 : 0 < j
        · obtain ⟨q, rfl⟩ : ∃ q, j = q + 1 := ⟨j - 1, by omega⟩
          obtain ⟨hle, hane, sa, sca, hra, hcell⟩ := HPR2.out q (by omega) rfl
          have e0 := (hBb.cell (p := ⟨g, off + q * 4 + 0, none⟩) hg).trans (hcell 0 _ rfl)
          have e1 := (hBb.cell (p := ⟨g, off + q * 4 + 1, none⟩) hg).trans (hcell 1 _ rfl)
          have e2 := (hBb.cell (p := ⟨g, off + q * 4 + 2, none⟩) hg).trans (hcell 2 _ rfl)
          have e3 := (hBb.cell (p := ⟨g, off + q * 4 + 3, none⟩) hg).trans (hcell 3 _ rfl)
          rw [Nat.add_zero] at e0
          have hqn : q < L.buns.length := by omega
          have hil := HIL.out q hqn
          obtain ⟨an, han⟩ : ∃ z, z = L.buns[q] := ⟨_, rfl⟩
          rw [← han] at hil hle hane e0 e1 e2 e3 hra
          obtain ⟨alv, agr, aids, agm⟩ := an
          dsimp only at hil hle hane e0 e1 e2 e3 hra
          have hal : 0 < aids.length := List.length_pos_iff.2 hane
          obtain ⟨r, hr⟩ : ∃ r, aids.length = r + 1 := ⟨aids.length - 1, by omega⟩
          obtain ⟨ga, oa, rfl, hga, hca⟩ := hra.at hal
          have ea := (hBb.cell (p := ⟨ga, oa + r, none⟩) hga).trans (hca r (by omega))
          obtain ⟨s1, s2, s3⟩ := bunLe_says hle
          dsimp only at s1 s2 s3
          obtain ⟨t0, _, _⟩ := HTC.out wb hBb
          have hwt : T < wb.heap.size := by have := hBb.size; omega
          have hgb : ga < wb.heap.size := by have := hBb.size; omega
          have hrb : r < 300 := by omega
          have hd1 : decide (lv < alv) = false := decide_eq_false s1
          obtain ⟨zl, hzl⟩ : ∃ z, z = aids[r]'(by omega) := ⟨_, rfl⟩
          have hzl2 : zl ∈ aids := by rw [hzl]; exact List.getElem_mem _
          rw [← hzl] at ea
          rw [hr] at e2
          have HLE := Lib.hid s3
          have HLE0 := Lib.hid hle
          have HZ2 := Lib.hid hzl2
          clear hcell han hca hane hle hra hr hzl hzl2 s1 s3 hal
          have hgb2 : ga < X + 1 := by omega
          have HBB := Lib.hid hBb
          have hbx : ∀ {u : Obj}, Below wb.heap.size wb (wb.alloc u) := fun {u} => (Below.refl _ wb).alloc (Nat.le_refl _) u
          have HBX : Hid (∀ u : Obj, Below wb.heap.size wb (wb.alloc u)) := fun u => hbx
          clear hbx
          by_cases hq1 : alv = lv
          · subst hq1
            by_cases hq2 : agr = gr
            · subst hq2
              have hs1 : (agr.toList == agr.toList) = true := by simp
              clear s2 hd1
              go_wp2_with fail
              go_meet
              exact ⟨zl, rfl, fun q' hq' => HLE.out (by first | trivial | rfl) (by first | trivial | rfl) zl HZ2.out _ (List.getElem_mem hq'), HBX.out _⟩
            · have hs1 : (agr.toList == gr.toList) = false := by rw [ba_eq]; exact decide_eq_false hq2
              have hs2 : Op.bytesLess agr.toList gr.toList = true := by
                rw [less_eq]
                rcases HLE0.out with h1 | ⟨_, h1 | ⟨h1, _⟩⟩
                · exact absurd h1 (Int.lt_irrefl _)
                · exact h1
                · exact absurd h1 hq2
              clear s2 hd1 hq2
              go_wp2_with fail
              go_meet
              exact ⟨0, rfl, fun q' hq' => (HOWN.out.2.2 _ (List.getElem_mem hq')).1, HBX.out _⟩
          · have hq3 : (alv == lv) = false := by simp [hq1]
            clear s2
            go_wp2_with fail
            go_meet
            exact ⟨0, rfl, fun q' hq' => (HOWN.out.2.2 _ (List.getElem_mem hq')).1, HBX.out _⟩
        · obtain rfl : j = 0 := by omega
          go_wp2_with fail
          go_meet
          exact ⟨0, rfl, fun q' hq' => (HOWN.out.2.2 _ (List.getElem_mem hq')).1, Below.refl _ _⟩
      case rest =>
        obtain ⟨z0, rfl, hz0, hbc⟩ := hcut
        obtain ⟨wd, hwd⟩ : ∃ x, x = wc := ⟨_, rfl⟩
        subst hwd
        have hBd : Below w5.heap.size w5 wd := hBb.trans (hbc.mono hBb.size)
        have hnd : wd.heap[X]? = _ := (hbc.block _ (by omega)).trans HNB.out
        obtain ⟨f0, f1, f2, f3⟩ := cells4 hnd
        have HZ0 := Lib.hid hz0
        clear hz0 hnd hbc HPR2 hBb hzb
        go_wp2_with fail
        clear f0 f1 f2 f3
        go_loopw [19, 113] (fun z i wq => ∃ (p : Nat) (z1 : Int), p ≤ ids.length ∧ z = .int .i64 z1 ∧ i = .int .i64 p ∧ (∀ q (hq : q < ids.length), p ≤ q → z1 < ids[q]) ∧ Below wd.heap.size wd wq) (fun _ i _ => ids.length - (intOf i).toNat)
        case atStart => exact ⟨0, z0, Nat.zero_le _, rfl, rfl, fun q hq _ => HZ0.out q hq, Below.refl _ _⟩
        case round =>
          obtain ⟨p, z1, hp, rfl, rfl, hlow, hBq⟩ := hrel
          by_cases hpl : p < ids.length
          · obtain ⟨gi, oi, rfl, hgi, hci⟩ := HRI.out.at (by omega)
            have ei := (hBq.cell (p := ⟨gi, oi + p, none⟩) (by have := hBd.size; show gi < _; omega)).trans ((hBd.cell (p := ⟨gi, oi + p, none⟩) hgi).trans (hci p hpl))
            have hlt1 := hlow p hpl (Nat.le_refl _)
            have HUP : Hid (∀ q (hq : q < ids.length), p + 1 ≤ q → ids[p] < ids[q]) := fun q hq hpq => List.pairwise_iff_getElem.1 HOWN.out.2.1 p q hpl hq (by omega)
            obtain ⟨v, hv⟩ : ∃ v, v = ids[p] := ⟨_, rfl⟩
            rw [← hv] at ei hlt1 HUP
            have hdq : decide (v ≤ z1) = false := decide_eq_false (by omega)
            clear hci hlow hv
            go_wp2_with fail
            go_roundw
            case rel => exact ⟨p + 1, v, by omega, rfl, by go_num, HUP.out, hBq⟩
            case measure => simp [intOf]; omega
          · obtain rfl : p = ids.length := by omega
            have HBQ := Lib.hid (hBd.trans (hBq.mono hBd.size))
            clear hlow
            go_wp2_with fail
            go_roundw
            case rel =>
              exact ⟨j + 1, by omega, by go_num, HBQ.out⟩
            case measure => simp [intOf]; omega
    · obtain rfl : j = L.buns.length := by omega
      obtain ⟨t0, t1, t2⟩ := HTC.out wo hB
      have HBX := Lib.hid hB
      clear hB
      go_wp2_with fail
      clear t0 t1 t2
      go_loopw [23, 126] (fun a i wr => ∃ q : Nat, q ≤ L.tras.length ∧ i = .int .i64 q ∧ a = .int .i64 (((L.tras.take q).flatMap (fun t => t.bs)).length : Nat) ∧ Below w5.heap.size w5 wr) (fun _ i _ => L.tras.length - (intOf i).toNat)
      case atStart => exact ⟨0, Nat.zero_le _, rfl, rfl, HBX.out⟩
      case round =>
        obtain ⟨wp, hwp⟩ : ∃ x, x = wr := ⟨_, rfl⟩
        subst hwp
        obtain ⟨q, hq, rfl, rfl, hB⟩ := hrel
        by_cases hql : q < L.tras.length
        · obtain ⟨g, off, rfl, hg, hcg⟩ := HR.out.t.at (by omega)
          obtain ⟨sb, scb, hri, hcell⟩ := hcg q hql
          have e0 := (hB.cell (p := ⟨g, off + q * 3 + 0, none⟩) hg).trans (hcell 0 _ rfl)
          have e1 := (hB.cell (p := ⟨g, off + q * 3 + 1, none⟩) hg).trans (hcell 1 _ rfl)
          have e2 := (hB.cell (p := ⟨g, off + q * 3 + 2, none⟩) hg).trans (hcell 2 _ rfl)
          rw [Nat.add_zero] at e0
          have HAT : Hid (∀ p (hp : p < L.tras[q].bs.length), L.tras[q].bs[p] = ((((L.tras.take q).flatMap (fun t => t.bs)).length + p : Nat) : Int)) := fun p hp => flat_atN (f := fun t => t.bs) HH.out.nb hql hp
          have hsu := flat_succ (fun t => t.bs) L.tras hql
          have htk := take_flat (fun t => t.bs) L.tras (q + 1)
          rw [HH.out.nb, numsR_len] at htk
          dsimp only at e0 e1 e2 hri hsu htk
          obtain ⟨o, ho⟩ : ∃ o, o = ((L.tras.take q).flatMap (fun t => t.bs)).length := ⟨_, rfl⟩
          rw [← ho] at hsu HAT
          rw [hsu] at htk
          obtain ⟨I, hI⟩ : ∃ I, I = L.tras[q].bs := ⟨_, rfl⟩
          obtain ⟨lv, hlv⟩ : ∃ z, z = L.tras[q].lvl := ⟨_, rfl⟩
          obtain ⟨gr, hgr⟩ : ∃ z, z = L.tras[q].grp := ⟨_, rfl⟩
          rw [← hgr] at e1
          have hATI : ∀ p (hp : p < I.length), I[p] = ((o + p : Nat) : Int) := by rw [hI]; exact HAT.out
          have HATI := Lib.hid hATI
          have HSU := Lib.hid hsu
          rw [← hI] at HSU htk hri e2
          rw [← hlv] at e0
          have HRI := Lib.hid hri
          have hob : o + I.length ≤ 300 := by omega
          clear hcg hcell hATI hri hsu htk hI hlv HAT hgr
          go_wp2_with fail
          obtain ⟨wb, hwb⟩ : ∃ x, x = wp.alloc (.cells #[.int .i64 lv, .string gr, .slice sb I.length scb] 49) := ⟨_, rfl⟩
          rw [← ho, ← hwb]
          have hbb : Below wp.heap.size wp wb := by rw [hwb]; exact (Below.refl _ _).alloc (Nat.le_refl _) _
          have hBb : Below w5.heap.size w5 wb := hB.trans (hbb.mono hB.size)
          clear hwb hbb hB e0 e1 e2
          go_loopw [23, 133] (fun a i wq => ∃ p : Nat, p ≤ I.length ∧ i = .int .i64 p ∧ a = .int .i64 ((o + p : Nat) : Int) ∧ Below wb.heap.size wb wq) (fun _ i _ => I.length - (intOf i).toNat)
          case atStart => exact ⟨0, Nat.zero_le _, rfl, rfl, Below.refl _ _⟩
          case round =>
            obtain ⟨p, hp, rfl, rfl, hBq⟩ := hrel
            by_cases hpl : p < I.length
            · obtain ⟨gi, oi, rfl, hgi, hci⟩ := HRI.out.at (by omega)
              have ei := (hBq.cell (p := ⟨gi, oi + p, none⟩) (by have := hBb.size; show gi < _; omega)).trans ((hBb.cell (p := ⟨gi, oi + p, none⟩) hgi).trans (hci p hpl))
              rw [HATI.out p hpl] at ei
              obtain ⟨v, hv⟩ : ∃ v, v = o + p := ⟨_, rfl⟩
              have hv2 : o + (p + 1) = v + 1 := by omega
              have hv3 : v < 300 := by omega
              rw [← hv] at ei ⊢
              clear hci hv
              go_wp2_with fail
              go_roundw
              case rel => exact ⟨p + 1, by omega, by go_num, by rw [hv2]; go_num, hBq⟩
              case measure => simp [intOf]; omega
            · obtain rfl : p = I.length := by omega
              have HBQ := Lib.hid (hBb.trans (hBq.mono hBb.size))
              go_wp2_with fail
              go_roundw
              case rel => exact ⟨q + 1, by omega, by go_num, by rw [HSU.out], HBQ.out⟩
              case measure => simp [intOf]; omega
        · obtain rfl : q = L.tras.length := by omega
          obtain ⟨t0, t1, t2⟩ := HTC.out wp hB
          have hfl : ((L.tras.take L.tras.length).flatMap (fun t => t.bs)).length = L.buns.length := by rw [List.take_length, HH.out.nb, numsR_len]; omega
          rw [hfl]
          have HBX := Lib.hid hB
          clear hB hfl
          go_wp2_with fail
          clear t0 t1 t2
          go_loopw [23, 152] (fun a i wr => ∃ q : Nat, q ≤ L.cons.length ∧ i = .int .i64 q ∧ a = .int .i64 (((L.cons.take q).flatMap (fun t => t.ts)).length : Nat) ∧ Below w5.heap.size w5 wr) (fun _ i _ => L.cons.length - (intOf i).toNat)
          case atStart => exact ⟨0, Nat.zero_le _, rfl, rfl, HBX.out⟩
          case round =>
            obtain ⟨wp, hwp⟩ : ∃ x, x = wr := ⟨_, rfl⟩
            subst hwp
            obtain ⟨q, hq, rfl, rfl, hB⟩ := hrel
            by_cases hql : q < L.cons.length
            · obtain ⟨g, off, rfl, hg, hcg⟩ := HR.out.c.at (by omega)
              obtain ⟨sb, scb, hri, hcell⟩ := hcg q hql
              have e0 := (hB.cell (p := ⟨g, off + q * 2 + 0, none⟩) hg).trans (hcell 0 _ rfl)
              have e1 := (hB.cell (p := ⟨g, off + q * 2 + 1, none⟩) hg).trans (hcell 1 _ rfl)
              rw [Nat.add_zero] at e0
              have HAT : Hid (∀ p (hp : p < L.cons[q].ts.length), L.cons[q].ts[p] = ((((L.cons.take q).flatMap (fun t => t.ts)).length + p : Nat) : Int)) := fun p hp => flat_atN (f := fun t => t.ts) HH.out.nt hql hp
              have hsu := flat_succ (fun t => t.ts) L.cons hql
              have htk := take_flat (fun t => t.ts) L.cons (q + 1)
              rw [HH.out.nt, numsR_len] at htk
              dsimp only at e0 e1 hri hsu htk
              obtain ⟨o, ho⟩ : ∃ o, o = ((L.cons.take q).flatMap (fun t => t.ts)).length := ⟨_, rfl⟩
              rw [← ho] at hsu HAT
              rw [hsu] at htk
              obtain ⟨I, hI⟩ : ∃ I, I = L.cons[q].ts := ⟨_, rfl⟩
              obtain ⟨lv, hlv⟩ : ∃ z, z = L.cons[q].lvl := ⟨_, rfl⟩
              have hATI : ∀ p (hp : p < I.length), I[p] = ((o + p : Nat) : Int) := by rw [hI]; exact HAT.out
              have HATI := Lib.hid hATI
              have HSU := Lib.hid hsu
              rw [← hI] at HSU htk hri e1
              rw [← hlv] at e0
              have HRI := Lib.hid hri
              have hob : o + I.length ≤ 300 := by omega
              clear hcg hcell hATI hri hsu htk hI hlv HAT 
              go_wp2_with fail
              obtain ⟨wb, hwb⟩ : ∃ x, x = wp.alloc (.cells #[.int .i64 lv, .slice sb I.length scb] 51) := ⟨_, rfl⟩
              rw [← ho, ← hwb]
              have hbb : Below wp.heap.size wp wb := by rw [hwb]; exact (Below.refl _ _).alloc (Nat.le_refl _) _
              have hBb : Below w5.heap.size w5 wb := hB.trans (hbb.mono hB.size)
              clear hwb hbb hB e0 e1 
              go_loopw [23, 159] (fun a i wq => ∃ p : Nat, p ≤ I.length ∧ i = .int .i64 p ∧ a = .int .i64 ((o + p : Nat) : Int) ∧ Below wb.heap.size wb wq) (fun _ i _ => I.length - (intOf i).toNat)
              case atStart => exact ⟨0, Nat.zero_le _, rfl, rfl, Below.refl _ _⟩
              case round =>
                obtain ⟨p, hp, rfl, rfl, hBq⟩ := hrel
                by_cases hpl : p < I.length
                · obtain ⟨gi, oi, rfl, hgi, hci⟩ := HRI.out.at (by omega)
                  have ei := (hBq.cell (p := ⟨gi, oi + p, none⟩) (by have := hBb.size; show gi < _; omega)).trans ((hBb.cell (p := ⟨gi, oi + p, none⟩) hgi).trans (hci p hpl))
                  rw [HATI.out p hpl] at ei
                  obtain ⟨v, hv⟩ : ∃ v, v = o + p := ⟨_, rfl⟩
                  have hv2 : o + (p + 1) = v + 1 := by omega
                  have hv3 : v < 300 := by omega
                  rw [← hv] at ei ⊢
                  clear hci hv
                  go_wp2_with fail
                  go_roundw
                  case rel => exact ⟨p + 1, by omega, by go_num, by rw [hv2]; go_num, hBq⟩
                  case measure => simp [intOf]; omega
                · obtain rfl : p = I.length := by omega
                  have HBQ := Lib.hid (hBb.trans (hBq.mono hBb.size))
                  go_wp2_with fail
                  go_roundw
                  case rel => exact ⟨q + 1, by omega, by go_num, by rw [HSU.out], HBQ.out⟩
                  case measure => simp [intOf]; omega
            · obtain rfl : q = L.cons.length := by omega
              obtain ⟨t0, t1, t2⟩ := HTC.out wp hB
              have hfl : ((L.cons.take L.cons.length).flatMap (fun t => t.ts)).length = L.tras.length := by rw [List.take_length, HH.out.nt, numsR_len]; omega
              rw [hfl]
              have HBX := Lib.hid hB
              clear hB hfl
              go_wp2_with fail
              go_ret
              exact ⟨rfl, HB5.out.trans (HBX.out.mono HB5.out.size)⟩
end Go.Proofs.YtelklmdlodgdpaaGreat
