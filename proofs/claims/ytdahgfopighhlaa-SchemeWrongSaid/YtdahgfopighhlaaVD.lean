/-
  The walk of letterbaglaw23.SchemeWrong.
-/
import Derived.Test.YtdahgfopighhlaaVC
import Derived.Deep.CutBlock
namespace Go.Proofs.Ytdahgfopighhlaa
open Go.RowKit
set_option linter.unusedVariables false
set_option maxRecDepth 100000
theorem codes1 (a : UInt8) (w W : World) (hw : Below w.heap.size w W) : Calls Try.prog 12 #[.slice (some ⟨W.heap.size, 0, none⟩) 1 1] (W.alloc (.cells #[.int .u8 (a.toNat : Int)] 5)) fun e w' => ∃ g cap, e = .returned (.slice (some ⟨g, 0, none⟩) 1 cap) ∧ Below w.heap.size w w' ∧ Below W.heap.size W w' ∧ g < w'.heap.size ∧ w'.cell? ⟨g, 0, none⟩ = some (.string (code5 a)) := by
  refine (codes_any [a] _ _ (rd_bytes (T := 5) [a] (alloc_new W _)) (by show 1 ≤ maxLen; decide)).mono ?_
  rintro e w' ⟨v, rfl, hb, ho⟩
  have ho' : OwnsT w' (W.alloc (.cells #[.int .u8 (a.toNat : Int)] 5)).heap.size v [code5 a] := ho
  obtain ⟨g, cap, rfl⟩ := Joins.ownsRow_form ho' (by show 0 < 1; decide)
  have h := ho'.lt g rfl
  exact ⟨g, cap, rfl, below_ac hw hw.size hb, below_ac (Below.refl _ W) (Nat.le_refl _) hb, h.2, owns_cell ho' (k := 0) (by show 0 < 1; decide)⟩
def WrongR (w : World) (ys : List Lev) (v : Value) (wx : World) : Prop := RdLevs wx v ys ∧ Below w.heap.size w wx
theorem defect_put {w W1 W : World} {gy ycap : Nat} {ls : List Lev} (hB : Below w.heap.size w W) (hw1 : w.heap.size ≤ W1.heap.size) (hy : OwnsLv W W1.heap.size (.slice (some ⟨gy, 0, none⟩) ls.length ycap) ls) (i j : Nat) (hi : i < ls.length) (hj : j < 5) (l' : Lev) (u : Value)
    (hu : (j ≠ 2 ∧ l'.labs = ls[i].labs ∧ ∀ sv, lCell (l', sv) = (lCell (ls[i], sv)).set j u) ∨ (j = 2 ∧ OwnsLab W W1.heap.size u l'.labs ∧ ∀ sv, lCell (l', u) = (lCell (ls[i], sv)).set 2 u)) :
    ∃ old, W.cell? ⟨gy, i * 5 + j, none⟩ = some old ∧ W.frozen? ⟨gy, i * 5 + j, none⟩ = false ∧ Hid (WrongR w (ls.set i l') (.slice (some ⟨gy, 0, none⟩) ls.length ycap) (W.setCell ⟨gy, i * 5 + j, none⟩ u)) := by
  obtain ⟨z1, z2, z3, z4, z5⟩ := hy.put i j hi hj l' u hu
  obtain ⟨old, ho⟩ := Option.ne_none_iff_exists'.1 z2
  exact ⟨old, ho, z3, z1.reads, hB.setCell (p := ⟨gy, i * 5 + j, none⟩) (by show w.heap.size ≤ gy; omega) u⟩
theorem lab_made (W : World) (base : Nat) (hb : base ≤ W.heap.size) (labs : List Lab) (hl : labs.length ≤ 10) : OwnsLab (W.alloc (.cells (labs.flatMap labCell).toArray 47)) base (.slice (some ⟨W.heap.size, 0, none⟩) labs.length labs.length) labs := by
  have hlen : (labs.flatMap labCell).length = labs.length * 2 := by
    clear hl hb
    induction labs with
    | nil => rfl
    | cons x r ih => rw [List.flatMap_cons, List.length_append, ih]; simp [labCell]; omega
  refine ⟨hlen, .inr ⟨_, _, _, rfl, hb, alloc_new W _, Nat.le_refl _, by unfold maxLen; omega, by rw [List.size_toArray, hlen], ?_⟩⟩
  rw [List.take_of_length_le]
  simp [hlen]
theorem OwnsLv.at2 {w : World} {base g cap n : Nat} {ls : List Lev} (h : OwnsLv w base (.slice (some ⟨g, 0, none⟩) n cap) ls) {i : Nat} (hi : i < ls.length) : ∃ a c, RdLabs w (.slice a ls[i].labs.length c) ls[i].labs ∧ LevAt w g (i * 5) ls[i] (.slice a ls[i].labs.length c) := by
  obtain ⟨a, cap', hv, hc⟩ := h.reads
  obtain ⟨g', off, ha, _, hcc⟩ := hc (by omega)
  obtain ⟨sv, h1, h2⟩ := hcc i hi
  injection hv with hv1 _ _
  rw [ha] at hv1
  injection hv1 with hv1
  injection hv1 with hv1 hv2 _
  subst hv1
  rw [← hv2, Nat.zero_add] at h2
  obtain ⟨a, c, rfl, h3⟩ := h1
  exact ⟨a, c, ⟨a, c, rfl, h3⟩, h2⟩
set_option maxHeartbeats 16000000 in
theorem schemeWrong_walk (n : Int) (d a : UInt8) (w : World) (hn0 : 0 ≤ n) (hn1 : n < 4294967296) :
    Calls Try.prog 9 #[.int .u32 n, .int .u8 (d.toNat : Int), .int .u8 (a.toNat : Int)] w fun e w' => e = .returned (.bool true) ∧ Below w.heap.size w w' := by
  obtain ⟨ho0, ho1, ho2⟩ := or_one hn0 hn1
  obtain ⟨labs, r, hmr, hrl⟩ := made_first ho2
  have hrt := made_right (bitsOf (bits .or .u32 n 1)) [] []
  have HMD := Lib.hid (fun W (h : Below w.heap.size w W) => bytes_made w W ho0 ho1 h)
  rw [hmr] at hrt HMD
  clear ho0 ho1 ho2 hmr
  have h5 : (⟨⟨#[102, 105, 118, 101]⟩, 5, labs, 1, 0⟩ : Lev).pre = 5 := rfl
  generalize (⟨⟨#[102, 105, 118, 101]⟩, 5, labs, 1, 0⟩ : Lev) = l0 at hrt HMD h5
  have HRT := Lib.hid hrt
  have H5 := Lib.hid h5
  have HCB := Lib.hid (code5_ok a)
  have HC1 := Lib.hid (fun W (h : Below w.heap.size w W) => codes1 a w W h)
  have HCS := Lib.hid (code5_size a)
  generalize code5 a = ca at HC1 HCB HCS
  obtain ⟨q, hq, hq1, hq2⟩ : ∃ q : Int, (d.toNat : Int) % 12 = q ∧ 0 ≤ q ∧ q < 12 := ⟨_, rfl, by omega, by omega⟩
  have hqt : (d.toNat : Int).tmod 12 = q := by rw [Int.tmod_eq_emod_of_nonneg (by omega)]; exact hq
  have hd1 : 0 ≤ (d.toNat : Int) := by omega
  have hd2 : (d.toNat : Int) ≤ 255 := by have := d.toNat_lt; omega
  generalize (d.toNat : Int) = dv at hq hqt hd1 hd2
  have hl6 : (l0 :: r).length ≤ 6 := (right_len hrt).2
  have hll : (l0 :: r).length = r.length + 1 := rfl
  have HFT := Lib.hid (right_fits hrt)
  rw [hll] at hl6
  clear hrt h5
  go_enter Try.func9, Try.ntmps9
  go_wp2_with fail
  refine (awake_any _).mono ?_
  rintro e W1 ⟨rfl, hB1⟩
  go_wp2_with fail
  refine (HMD.out _ hB1).mono ?_
  rintro e W2 ⟨vx, rfl, hB2, hb2, hown⟩
  obtain ⟨gy, ycap, rfl, hy1, hy2, hy3⟩ := made_lies hown (by omega)
  rw [hll] at hown ⊢
  have HY := Lib.hid hown
  have hgy2 : W1.heap.size ≤ gy := by
    obtain ⟨L, _, _, hLo⟩ := hown
    exact (hLo.lt gy rfl).1
  have hw1 : w.heap.size ≤ W1.heap.size := hB1.size
  have HB1 := Lib.hid hB1
  clear hown hB1 hy1 hy2
  go_wp2_with fail
  refine (HC1.out _ hB2).mono ?_
  rintro e W3 ⟨gc, cc, rfl, hB3, hb3, hgc, hc0⟩
  have HY3 := Lib.hid (HY.out.below hb3)
  have hgy3 : gy < W3.heap.size := by have := hb3.size; omega
  clear hB2 hb2 hb3 HY hy3 HC1
  have hrb1 : (0 : Int) ≤ (r.length : Int) := by omega
  have hrb2 : (r.length : Int) < (r.length : Int) + 1 := by omega
  have hW13 : W1.heap.size ≤ W3.heap.size := by omega
  go_upto_block 0 with fail
  go_cut [7] from 39 to 110 (fun v wx => WrongR w (defectL (l0 :: r) ca q.toNat) v wx)
  case first =>
    clear hq hqt hc0 HRT H5 HFT HMD HCB HCS
    have hq3 : q = 0 ∨ q = 1 ∨ q = 2 ∨ q = 3 ∨ q = 4 ∨ q = 5 ∨ q = 6 ∨ q = 7 ∨ q = 8 ∨ q = 9 ∨ q = 10 ∨ q = 11 := by omega
    clear hq1 hq2
    rcases hq3 with rfl | rfl | rfl | rfl | rfl | rfl | rfl | rfl | rfl | rfl | rfl | rfl
    · go_wp2_with fail
      go_meet
      exact ⟨⟨none, 0, rfl, fun h => absurd h (by simp [defectL])⟩, hB3⟩
    · -- defect 1
      obtain ⟨old, z1, z2, z4⟩ := defect_put hB3 hw1 HY3.out 0 0 (by simp) (by decide) { l0 with name := ⟨#[]⟩ } (.string ⟨#[]⟩) (.inl ⟨by decide, rfl, fun sv => rfl⟩)
      simp only [Nat.zero_mul, Nat.zero_add] at z1 z2 z4
      go_wp2_with fail
      go_meet
      exact z4.out
    · -- defect 2
      obtain ⟨old, z1, z2, z4⟩ := defect_put hB3 hw1 HY3.out r.length 0 (by simp) (by decide) { (lv (l0 :: r) r.length) with name := l0.name } (.string l0.name) (.inl ⟨by decide, by rw [← lv_get (ls := l0 :: r) (by simp)], fun sv => by rw [← lv_get (ls := l0 :: r) (by simp)]; rfl⟩)
      simp only [Nat.add_zero] at z1 z2 z4
      obtain ⟨_, _, _, hat0⟩ := OwnsLv.at2 HY3.out (i := 0) (by simp)
      have t0 : W3.cell? ⟨gy, 0, none⟩ = some (.string l0.name) := by have := hat0.1; simpa using this
      clear hat0
      go_wp2_with fail
      go_meet
      exact z4.out
    · -- defect 3
      obtain ⟨old, z1, z2, z4⟩ := defect_put hB3 hw1 HY3.out 0 1 (by simp) (by decide) { l0 with pre := 11 } (.int .i64 11) (.inl ⟨by decide, rfl, fun sv => rfl⟩)
      simp only [Nat.zero_mul, Nat.zero_add] at z1 z2 z4
      go_wp2_with fail
      go_meet
      exact z4.out
    · -- defect 4
      obtain ⟨old, z1, z2, z4⟩ := defect_put hB3 hw1 HY3.out 0 1 (by simp) (by decide) { l0 with pre := -1 } (.int .i64 (-1)) (.inl ⟨by decide, rfl, fun sv => rfl⟩)
      simp only [Nat.zero_mul, Nat.zero_add] at z1 z2 z4
      go_wp2_with fail
      go_meet
      exact z4.out
    · -- defect 5
      obtain ⟨old, z1, z2, z4⟩ := defect_put hB3 hw1 HY3.out 0 3 (by simp) (by decide) { l0 with min := 0 } (.int .i64 0) (.inl ⟨by decide, rfl, fun sv => rfl⟩)
      simp only [Nat.zero_mul, Nat.zero_add] at z1 z2 z4
      go_wp2_with fail
      go_meet
      exact z4.out
    · -- defect 6
      obtain ⟨old, z1, z2, z4⟩ := defect_put hB3 hw1 HY3.out r.length 3 (by simp) (by decide) { (lv (l0 :: r) r.length) with min := 1 } (.int .i64 1) (.inl ⟨by decide, by rw [← lv_get (ls := l0 :: r) (by simp)], fun sv => by rw [← lv_get (ls := l0 :: r) (by simp)]; rfl⟩)
      go_wp2_with fail
      go_meet
      exact z4.out
    · -- defect 7
      obtain ⟨old, z1, z2, z4⟩ := defect_put hB3 hw1 HY3.out r.length 1 (by simp) (by decide) { (lv (l0 :: r) r.length) with pre := 1 } (.int .i64 1) (.inl ⟨by decide, by rw [← lv_get (ls := l0 :: r) (by simp)], fun sv => by rw [← lv_get (ls := l0 :: r) (by simp)]; rfl⟩)
      go_wp2_with fail
      go_meet
      exact z4.out
    · -- defect 8
      obtain ⟨old, z1, z2, z4⟩ := defect_put hB3 hw1 HY3.out 0 4 (by simp) (by decide) { l0 with cents := -1 } (.int .i64 (-1)) (.inl ⟨by decide, rfl, fun sv => rfl⟩)
      simp only [Nat.zero_mul, Nat.zero_add] at z1 z2 z4
      go_wp2_with fail
      go_meet
      exact z4.out
    · -- defect 9
      have HLB := lab_made W3 W1.heap.size (by omega) [⟨ca, wrongA⟩, ⟨ca, wrongA⟩] (by simp)
      have HYA := HY3.out.below ((Below.refl _ W3).alloc (Nat.le_refl _) (.cells (([⟨ca, wrongA⟩, ⟨ca, wrongA⟩]).flatMap labCell).toArray 47))
      obtain ⟨old, z1, z2, z4⟩ := defect_put (hB3.alloc hB3.size _) hw1 HYA 0 2 (by simp) (by decide) { l0 with labs := [⟨ca, wrongA⟩, ⟨ca, wrongA⟩] } (.slice (some ⟨W3.heap.size, 0, none⟩) 2 2) (.inr ⟨rfl, HLB, fun sv => rfl⟩)
      clear HLB HYA
      simp only [Nat.zero_mul, Nat.zero_add] at z1 z2 z4
      simp only [List.flatMap_cons, List.flatMap_nil, labCell, List.cons_append, List.nil_append, List.append_nil, List.length_cons, wrongA, World.setCell_alloc_past _ _ _ _ hgy3] at z1 z2 z4
      go_wp2_with fail
      go_meet
      exact z4.out
    · -- defect 10
      have HLB := lab_made W3 W1.heap.size (by omega) [⟨⟨#[49, 50, 51, 52]⟩, wrongA⟩] (by simp)
      have HYA := HY3.out.below ((Below.refl _ W3).alloc (Nat.le_refl _) (.cells (([⟨⟨#[49, 50, 51, 52]⟩, wrongA⟩]).flatMap labCell).toArray 47))
      obtain ⟨old, z1, z2, z4⟩ := defect_put (hB3.alloc hB3.size _) hw1 HYA 0 2 (by simp) (by decide) { l0 with labs := [⟨⟨#[49, 50, 51, 52]⟩, wrongA⟩] } (.slice (some ⟨W3.heap.size, 0, none⟩) 1 1) (.inr ⟨rfl, HLB, fun sv => rfl⟩)
      clear HLB HYA
      simp only [Nat.zero_mul, Nat.zero_add] at z1 z2 z4
      simp only [List.flatMap_cons, List.flatMap_nil, labCell, List.append_nil, List.length_cons, wrongA, World.setCell_alloc_past _ _ _ _ hgy3] at z1 z2 z4
      go_wp2_with fail
      go_meet
      exact z4.out
    · -- defect 11
      have HLB := lab_made W3 W1.heap.size (by omega) [⟨⟨#[]⟩, wrongA⟩] (by simp)
      have HYA := HY3.out.below ((Below.refl _ W3).alloc (Nat.le_refl _) (.cells (([⟨⟨#[]⟩, wrongA⟩]).flatMap labCell).toArray 47))
      obtain ⟨old, z1, z2, z4⟩ := defect_put (hB3.alloc hB3.size _) hw1 HYA r.length 2 (by simp) (by decide) { (lv (l0 :: r) r.length) with labs := [⟨⟨#[]⟩, wrongA⟩] } (.slice (some ⟨W3.heap.size, 0, none⟩) 1 1) (.inr ⟨rfl, HLB, fun sv => by rw [← lv_get (ls := l0 :: r) (by simp)]; rfl⟩)
      clear HLB HYA
      simp only [List.flatMap_cons, List.flatMap_nil, labCell, List.append_nil, List.length_cons, wrongA, World.setCell_alloc_past _ _ _ _ hgy3] at z1 z2 z4
      go_wp2_with fail
      go_meet
      exact z4.out
  case rest =>
    obtain ⟨hrd, hBx⟩ := hcut
    have HWR := Lib.hid (defect_wrong H5.out hrl ca q.toNat)
    obtain ⟨hft, hfl⟩ := defect_fits HFT.out (code := ca) (by rw [HCS.out]; decide) q.toNat
    rw [hll] at hfl
    have HWA := Lib.hid (wrong_all HWR.out ca)
    have HFD := Lib.hid hft
    have HRD := Lib.hid hrd
    have hys6 : (defectL (l0 :: r) ca q.toNat).length ≤ 6 := by omega
    have HBAD := Lib.hid (fun k hk => bad_all (code := ca) HRT.out H5.out HCB.out HCS.out k hk)
    have hca : ca.size ≤ 100 := by rw [HCS.out]; decide
    generalize defectL (l0 :: r) ca q.toNat = ys at HWR HFD HWA HRD hys6 hfl
    clear hft hrd hfl hq hqt hq1 hq2 hc0 hgc hgy3 HY3 hB3 hd1 hd2 hgy2 hrb1 hrb2 hW13 hw1 HB1
    go_wp2_with fail
    refine (find_err ys _ ca 2 w wc HRD.out HFD.out hys6 hca HWA.out.1 hBx).mono ?_
    rintro e W5 ⟨rfl, hB5, hb5⟩
    have HR5 := Lib.hid (HRD.out.below hb5)
    clear hb5 hBx HRD
    go_wp2_with fail
    refine (path_err ys _ ca 2 w W5 HR5.out HFD.out hys6 hca HWA.out.2.1 hB5).mono ?_
    rintro e W6 ⟨a6, c6, rfl, hB6, hb6⟩
    have HR6 := Lib.hid (HR5.out.below hb6)
    clear hb6 hB5 HR5
    go_wp2_with fail
    have HR7 := Lib.hid (HR6.out.below ((Below.refl _ W6).alloc (Nat.le_refl _) (.cells #[.string ca] 9)))
    have hrt7 : ReadsT (W6.alloc (.cells #[.string ca] 9)) (.slice (some ⟨W6.heap.size, 0, none⟩) 1 1) [ca] := ⟨_, _, rfl, fun _ => ⟨W6.heap.size, 0, rfl, by simp, fun i hi => by
      obtain rfl : i = 0 := by simp at hi; omega
      rw [cell_of_row _ W6.heap.size _ _ _ _ (alloc_new W6 _)]
      rfl⟩⟩
    refine (groups_err ys _ _ [ca] 2 w _ HR7.out HFD.out hys6 hrt7 (by simp) (by simpa using hca) HWA.out.2.2 (hB6.alloc hB6.size _)).mono ?_
    rintro e W8 ⟨a8, c8, rfl, hB8, hb8⟩
    have HR8 := Lib.hid (HR7.out.below hb8)
    clear hb8 hB6 HR6 HR7 hrt7
    go_wp2_with fail
    refine (right_no ys _ w W8 HR8.out HFD.out hys6 HWR.out hB8).mono ?_
    rintro e W9 ⟨rfl, hB9, hb9⟩
    clear hb9 hB8 HR8 HWR HFD HWA hys6
    go_wp2_with fail
    refine (HMD.out _ hB9).mono ?_
    rintro e W10 ⟨vx, rfl, hB10, hb10, hown⟩
    have HX := Lib.hid hown.reads
    clear hb10 hB9 hown HMD
    go_wp2_with fail
    obtain ⟨WB, N, hWB, hN, HT, hBB, hbB, hNB⟩ : ∃ WB N, W10.alloc (.cells #[.string ⟨#[]⟩, .int .i64 2, .string ⟨#[49, 48, 48, 50, 97]⟩, .int .i64 2, .string ⟨#[49, 50, 51, 52, 53, 54, 55, 56, 57, 48, 49]⟩, .int .i64 2, .string ⟨#[49, 48, 48, 50]⟩, .int .i64 6] 54) = WB ∧ W10.heap.size = N ∧ Hid (∀ k, k < 4 → WB.cell? ⟨N, k * 2, none⟩ = some (.string (badC k)) ∧ WB.cell? ⟨N, k * 2 + 1, none⟩ = some (.int .i64 (badE k))) ∧ Below w.heap.size w WB ∧ Below W10.heap.size W10 WB ∧ N < WB.heap.size := by
      refine ⟨_, _, rfl, rfl, fun k hk => ?_, hB10.alloc hB10.size _, (Below.refl _ _).alloc (Nat.le_refl _) _, by simp⟩
      rw [cell_of_row _ W10.heap.size _ _ _ _ (alloc_new W10 _), cell_of_row _ W10.heap.size _ _ _ _ (alloc_new W10 _)]
      match k, hk with
      | 0, _ => exact ⟨rfl, rfl⟩
      | 1, _ => exact ⟨rfl, rfl⟩
      | 2, _ => exact ⟨rfl, rfl⟩
      | 3, _ => exact ⟨rfl, rfl⟩
    rw [hWB, hN]
    have HXB := Lib.hid (HX.out.below hbB)
    clear hWB hN hbB HX hB10
    have HFL := Lib.hid HFT.out
    go_loopw [165] (fun i wr => ∃ k : Nat, k ≤ 4 ∧ i = .int .i64 k ∧ Below w.heap.size w wr ∧ Below WB.heap.size WB wr) (fun i _ => 4 - (intOf i).toNat)
    case atStart => exact ⟨0, Nat.zero_le _, rfl, hBB, Below.refl _ _⟩
    case round =>
      clear hBB
      obtain ⟨k, hk, rfl, hB, hb⟩ := hrel
      by_cases hlt : k < 4
      · obtain ⟨t0, t1⟩ := HT.out k hlt
        have x0 : wr.cell? ⟨N, k * 2, none⟩ = some (.string (badC k)) := (hb.cell (p := ⟨N, k * 2, none⟩) hNB).trans t0
        have x1 : wr.cell? ⟨N, k * 2 + 1, none⟩ = some (.int .i64 (badE k)) := (hb.cell (p := ⟨N, k * 2 + 1, none⟩) hNB).trans t1
        obtain ⟨hf, hp, hg, hcz⟩ := HBAD.out k hlt
        have HF := Lib.hid hf
        have HP := Lib.hid hp
        have HG := Lib.hid hg
        have HXr := Lib.hid (HXB.out.below hb)
        generalize badC k = c at x0 HF HP HG hcz
        generalize badE k = ee at x1 HF HP HG
        have hee : (ee != ee) = false := by simp
        clear t0 t1 hf hp hg HBAD HT HXB
        go_upto_region 39 with fail
        obtain ⟨Wq, X, hW, hX, hBq, hbq, c0, c1, hXq⟩ : ∃ Wq X, wr.alloc (.cells #[.string c, .int .i64 ee] 54) = Wq ∧ wr.heap.size = X ∧ Below w.heap.size w Wq ∧ Below wr.heap.size wr Wq ∧ Wq.cell? ⟨X, 0, none⟩ = some (.string c) ∧ Wq.cell? ⟨X, 1, none⟩ = some (.int .i64 ee) ∧ X < Wq.heap.size :=
          ⟨_, _, rfl, rfl, hB.alloc hB.size _, (Below.refl _ _).alloc (Nat.le_refl _) _, cell_of_row _ wr.heap.size 0 _ _ _ (alloc_new wr _), cell_of_row _ wr.heap.size 1 _ _ _ (alloc_new wr _), by simp⟩
        rw [hW, hX]
        have HXq := Lib.hid (HXr.out.below hbq)
        have Hbq := Lib.hid (below_c hb hb.size hbq)
        clear hW hX x0 x1 HXr hbq hB hb
        go_wp2_with fail
        refine (path_err (l0 :: r) _ c ee w Wq HXq.out HFL.out (by rw [hll]; exact hl6) hcz HP.out hBq).mono ?_
        rintro e w5 ⟨a5, c5, rfl, hB5, hb5⟩
        have HX5 := Lib.hid (HXq.out.below hb5)
        have d0 : w5.cell? ⟨X, 0, none⟩ = _ := (hb5.cell (p := ⟨X, 0, none⟩) hXq).trans c0
        have d1 : w5.cell? ⟨X, 1, none⟩ = _ := (hb5.cell (p := ⟨X, 1, none⟩) hXq).trans c1
        have hX5 : X < w5.heap.size := by have := hb5.size; omega
        have Hb5 := Lib.hid (below_c Hbq.out Hbq.out.size hb5)
        clear hb5 hBq HXq Hbq c0 c1 hXq
        go_wp2_with fail
        have HX6 := Lib.hid (HX5.out.below ((Below.refl _ w5).alloc (Nat.le_refl _) (.cells #[.string ca, .string c] 9)))
        have hrt6 : ReadsT (w5.alloc (.cells #[.string ca, .string c] 9)) (.slice (some ⟨w5.heap.size, 0, none⟩) 2 2) [ca, c] := ⟨_, _, rfl, fun _ => ⟨w5.heap.size, 0, rfl, by simp, fun i hi => by
          rw [cell_of_row _ w5.heap.size _ _ _ _ (alloc_new w5 _)]
          match i, hi with
          | 0, _ => rfl
          | 1, _ => rfl⟩⟩
        have hbA : Below w5.heap.size w5 (w5.alloc (.cells #[.string ca, .string c] 9)) := (Below.refl _ _).alloc (Nat.le_refl _) _
        refine (groups_err (l0 :: r) _ _ [ca, c] ee w _ HX6.out HFL.out (by rw [hll]; exact hl6) hrt6 (by simp) (by simp; exact ⟨hca, hcz⟩) HG.out (hB5.alloc hB5.size _)).mono ?_
        rintro e w7 ⟨a7, c7, rfl, hB7, hb7⟩
        have hb57 : Below w5.heap.size w5 w7 := below_ac (Below.refl _ w5) (Nat.le_refl _) hb7
        have HX7 := Lib.hid (HX5.out.below hb57)
        have e0 : w7.cell? ⟨X, 0, none⟩ = _ := (hb57.cell (p := ⟨X, 0, none⟩) hX5).trans d0
        have e1 : w7.cell? ⟨X, 1, none⟩ = _ := (hb57.cell (p := ⟨X, 1, none⟩) hX5).trans d1
        have hX7 : X < w7.heap.size := by have := hb57.size; omega
        have Hb7 := Lib.hid (below_c Hb5.out Hb5.out.size hb57)
        clear hb7 hb57 hB5 HX5 HX6 Hb5 d0 d1 hX5 hrt6 hbA
        go_wp2_with fail
        refine (find_err (l0 :: r) _ c ee w w7 HX7.out HFL.out (by rw [hll]; exact hl6) hcz HF.out hB7).mono ?_
        rintro e w8 ⟨rfl, hB8, hb8⟩
        have f1 : w8.cell? ⟨X, 1, none⟩ = _ := (hb8.cell (p := ⟨X, 1, none⟩) hX7).trans e1
        have Hb8 := Lib.hid (below_c Hb7.out Hb7.out.size hb8)
        clear hb8 hB7 HX7 Hb7 e0 e1
        go_wp2_with fail
        go_roundw
        case rel => exact ⟨k + 1, by omega, by go_num, hB8, Hb8.out⟩
        case measure => simp [intOf]; omega
      · go_wp2_with fail
        go_ret
        exact ⟨rfl, hB⟩
end Go.Proofs.Ytdahgfopighhlaa
