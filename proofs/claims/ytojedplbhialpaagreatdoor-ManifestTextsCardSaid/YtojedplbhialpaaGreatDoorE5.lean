/-
  The reference's text of a manifest.
-/
import Derived.Test.YtojedplbhialpaaGreatDoorE4
import Derived.Test.YtojedplbhialpaaGreatDoorGU
namespace Go.Proofs.YtojedplbhialpaaGreatDoor
open Go.RowKit Go.Sort
set_option linter.unusedVariables false
set_option maxRecDepth 100000
theorem lineB_le {nm : ByteArray} {l : Ln} (hn : nm.size ≤ 1000) (ha : amtL l = true) (hp : I64 l.pieces) (hb : I64 l.barred) (hg : I64 l.grams) : (lineB nm l).size ≤ 2000 := by
  have := wordsB_le hn (wordsL_size ⟨ha, hp, hb, hg⟩) (show (wordsL l).length ≤ 7 by exact Nat.le_refl _)
  show (wordsB nm (wordsL l)).toArray.size ≤ 2000
  rw [List.size_toArray]
  exact this
theorem rows_next {ls : List Lev} {X : Man} {k : Nat} (hk : k < ls.length) (hx : k < X.lines.length) : (⟨(rowsB ls X (k + 1)).toArray⟩ : ByteArray) = ⟨(rowsB ls X k).toArray⟩ ++ lineB ls[k].name X.lines[k] := by
  apply ByteArray.ext
  apply Array.toList_inj.1
  rw [ByteArray.data_append, rowsB_succ]
  unfold rowB lineB
  rw [List.getD_eq_getElem?_getD, List.getElem?_eq_getElem hk, List.getD_eq_getElem?_getD, List.getElem?_eq_getElem hx]
  simp
theorem text_whole (ls : List Lev) (X : Man) :
    (⟨(textL ls X).toArray⟩ : ByteArray) = ⟨(rowsB ls X ls.length).toArray⟩ ++ lineB totalS X.total ++ ⟨#[112, 97, 99, 107, 101, 100, 32]⟩ ++ itoaB X.buns ++ ⟨#[32]⟩ ++ itoaB X.tras ++ ⟨#[32]⟩ ++ itoaB X.cons ++ ⟨#[10]⟩ := by
  apply ByteArray.ext
  apply Array.toList_inj.1
  simp [textL, lineB, wordsB, restB, packW, packedS, ByteArray.data_append]
set_option maxHeartbeats 16000000 in
theorem rtext_any {ls : List Lev} {X : Man} {vl v : Value} (w : World) (hr : RdLevs w vl ls) (hf : ∀ l ∈ ls, LevFits l) (hll : ls.length ≤ maxLen) (hx : RdLns w v X.lines) (ht : I64 X.total.pieces ∧ I64 X.total.barred ∧ I64 X.total.grams) (hlt : ∀ l ∈ X.lines, I64 l.pieces ∧ I64 l.barred ∧ I64 l.grams)
    (hb : I64 X.buns) (htr : I64 X.tras) (hc : I64 X.cons) :
    Calls Tryz.prog 36 #[vl, manA X v] w fun e w' => e = .returned (.tuple #[.string (textV ls X).1, .int .i64 (textV ls X).2]) ∧ Below w.heap.size w w' := by
  obtain ⟨W0, hW0⟩ : ∃ W0, W0 = w.alloc (.cells #[v, .int .i64 X.total.level, .int .i64 X.total.pieces, .int .i64 X.total.barred, .int .i64 X.total.grams, .int .i64 X.total.base, .int .i64 X.total.bar, .int .i64 X.total.saved, .int .i64 X.total.cents, .int .i64 X.buns, .int .i64 X.tras, .int .i64 X.cons] 44) := ⟨_, rfl⟩
  have hbox : W0.heap[w.heap.size]? = some (.cells #[v, .int .i64 X.total.level, .int .i64 X.total.pieces, .int .i64 X.total.barred, .int .i64 X.total.grams, .int .i64 X.total.base, .int .i64 X.total.bar, .int .i64 X.total.saved, .int .i64 X.total.cents, .int .i64 X.buns, .int .i64 X.tras, .int .i64 X.cons] 44) := by rw [hW0]; exact alloc_new w _
  have hb0 : Below w.heap.size w W0 := by rw [hW0]; exact (Below.refl _ w).alloc (Nat.le_refl _) _
  have hsr := fun W (hW : Below w.heap.size w W) => rRight_any ls vl W (hr.below hW) hf hll
  obtain ⟨al, cl, rfl, hlc⟩ := hr
  obtain ⟨ax, cx, rfl, hxc⟩ := hx
  have HLC := Lib.hid hlc
  have HXC := Lib.hid hxc
  have HW0 := Lib.hid hW0
  have HB0 := Lib.hid hb0
  have HBOX := Lib.hid hbox
  have HLT := Lib.hid hlt
  have HT := Lib.hid ht
  have HBI := Lib.hid (And.intro hb (And.intro htr hc))
  have HOK : Hid (textOk ls X = (rightB ls && decide (X.lines.length = ls.length) && allAmt X)) := by show _ = _; rfl
  clear hlc hxc hW0 hb0 hbox hlt ht hb htr hc hf
  obtain ⟨vt, hvt⟩ : ∃ vt, vt = (textV ls X).1 := ⟨_, rfl⟩
  obtain ⟨vn, hvn⟩ : ∃ vn, vn = (textV ls X).2 := ⟨_, rfl⟩
  have HV0 : Hid (textOk ls X = false → ⟨#[]⟩ = vt ∧ 2 = vn) := fun h => by rw [hvt, hvn]; unfold textV; rw [h]; exact ⟨rfl, rfl⟩
  have HV1 : Hid (textOk ls X = true → ⟨(textL ls X).toArray⟩ = vt ∧ 0 = vn) := fun h => by rw [hvt, hvn]; unfold textV; rw [h]; exact ⟨rfl, rfl⟩
  rw [← hvt, ← hvn]
  clear hvt hvn
  generalize textOk ls X = ok at HOK HV0 HV1
  cases hri : rightB ls
  · rw [hri] at hsr
    have HSR := Lib.hid hsr
    have HK : Hid (ok = false) := by show _ = _; rw [HOK.out, hri]; rfl
    clear hsr hri HOK
    unfold manA
    go_enter Tryz.func36, Tryz.ntmps36
    go_wp2_with fail
    rw [← HW0.out]
    refine (HSR.out _ HB0.out).mono ?_
    rintro e w1 ⟨rfl, hb1⟩
    have HB1 := Lib.hid (below_c HB0.out HB0.out.size hb1)
    clear hb1
    go_wp2_with fail
    go_ret2
    obtain ⟨rfl, rfl⟩ := HV0.out HK.out
    exact ⟨rfl, HB1.out⟩
  · have hl6 := right_len hri
    have HNM := Lib.hid (right_name hri)
    rw [hri] at hsr HOK
    have HSR := Lib.hid hsr
    clear hsr hri
    by_cases hl : X.lines.length = ls.length
    · rw [decide_eq_true hl] at HOK
      have HOK' : Hid (ok = allAmt X) := by show _ = _; rw [HOK.out]; rfl
      have hne : ((X.lines.length : Int) != (ls.length : Int)) = false := by rw [hl]; simp
      have HL := Lib.hid hl
      clear HOK hl
      unfold manA
      go_enter Tryz.func36, Tryz.ntmps36
      go_wp2_with fail
      rw [← HW0.out]
      refine (HSR.out _ HB0.out).mono ?_
      rintro e w1 ⟨rfl, hb1⟩
      have K1 := Lib.hid (blk_keep hb1 HBOX.out)
      have HB1 := Lib.hid (below_c HB0.out HB0.out.size hb1)
      have x0 := cell_of_row _ _ 0 _ _ _ K1.out
      clear hb1
      go_wp2_with fail
      go_loopw [6, 7] (fun s i wr => ∃ (k : Nat) (sb : ByteArray), k ≤ ls.length ∧ i = .int .i64 k ∧ s = .string sb ∧ Hid (sb = ⟨(rowsB ls X k).toArray⟩) ∧ sb.size ≤ k * 2000 ∧ Hid ((X.lines.take k).all amtL = true) ∧ Below w1.heap.size w1 wr) (fun _ i _ => ls.length - (intOf i).toNat)
      case atStart => exact ⟨0, _, Nat.zero_le _, rfl, rfl, rfl, Nat.zero_le _, rfl, Below.refl _ _⟩
      case round =>
        obtain ⟨k, sb, hk, rfl, rfl, HE, hz, HT2, hb⟩ := hrel
        have HBr := Lib.hid (below_c HB1.out HB1.out.size hb)
        have K2 := Lib.hid (blk_keep hb K1.out)
        clear x0
        by_cases hlt : k < ls.length
        · have hxl : k < X.lines.length := by rw [HL.out]; exact hlt
          obtain ⟨gl, ol, rfl, hgl, hlc⟩ := HLC.out (by omega)
          obtain ⟨lv, _, hlat⟩ := hlc k hlt
          have n0 := cells_in ((HBr.out.cell (p := ⟨gl, ol + k * 5, none⟩) hgl).trans hlat.1)
          obtain ⟨g, off, rfl, hg, hcell⟩ := HXC.out (by omega)
          have hcx := hcell k hxl
          have HN := Lib.hid (rows_next hlt hxl)
          have hlk := HLT.out _ (List.getElem_mem hxl)
          have hnk := HNM.out _ (List.getElem_mem hlt)
          have HTS : Hid (X.lines.take (k + 1) = X.lines.take k ++ [X.lines[k]]) := by show _ = _; exact List.take_succ_eq_append_getElem hxl
          have HBAD : Hid (amtL X.lines[k] = false → allAmt X = false) := fun h => by
            unfold allAmt
            have : X.lines.all amtL = false := by
              rw [← Bool.not_eq_true, List.all_eq_true]
              intro ha
              rw [ha _ (List.getElem_mem hxl)] at h
              cases h
            rw [this, Bool.and_false]
          generalize ls[k].name = nm at n0 HN hnk
          generalize X.lines[k] = x at hcx HN hlk HTS HBAD
          have c0 := cells_in ((HBr.out.cell (p := ⟨g, off + k * 8, none⟩) hg).trans (hcx 0 _ rfl))
          have c1 := cells_in ((HBr.out.cell (p := ⟨g, off + k * 8 + 1, none⟩) hg).trans (hcx 1 _ rfl))
          have c2 := cells_in ((HBr.out.cell (p := ⟨g, off + k * 8 + 2, none⟩) hg).trans (hcx 2 _ rfl))
          have c3 := cells_in ((HBr.out.cell (p := ⟨g, off + k * 8 + 3, none⟩) hg).trans (hcx 3 _ rfl))
          have c4 := cells_in ((HBr.out.cell (p := ⟨g, off + k * 8 + 4, none⟩) hg).trans (hcx 4 _ rfl))
          have c5 := cells_in ((HBr.out.cell (p := ⟨g, off + k * 8 + 5, none⟩) hg).trans (hcx 5 _ rfl))
          have c6 := cells_in ((HBr.out.cell (p := ⟨g, off + k * 8 + 6, none⟩) hg).trans (hcx 6 _ rfl))
          have c7 := cells_in ((HBr.out.cell (p := ⟨g, off + k * 8 + 7, none⟩) hg).trans (hcx 7 _ rfl))
          have y0 := cells_in (cell_of_row _ _ 0 _ _ _ K2.out)
          have hd : decide ((k : Int) < (ls.length : Int)) = true := decide_eq_true (by omega)
          have HBN : Hid (∀ pp : Regrown, Below w1.heap.size w1 (grow (redrawn wr pp.d) pp.os)) := fun pp => hb.trans ((below_in wr pp).mono hb.size)
          have CR : Hid (∀ W, Below wr.heap.size wr W → _) := fun W (_ : Below wr.heap.size wr W) => rrow_any nm x W hnk hlk.1 hlk.2.1 hlk.2.2
          have HZ : Hid (amtL x = true → (lineB nm x).size ≤ 2000) := fun h => lineB_le hnk h hlk.1 hlk.2.1 hlk.2.2
          unfold lnA at CR
          unfold rowV at CR
          obtain ⟨bx, hbx⟩ : ∃ b, b = amtL x := ⟨_, rfl⟩
          rw [← hbx] at CR HBAD HZ
          have HBX := Lib.hid hbx
          clear hlc hlat hcell hcx hbx hb HSR HXC HLC
          cases bx
          · have HBAD' := Lib.hid (HBAD.out rfl)
            clear HBAD HZ
            go_wp2_with fail
            refine wp_region_quiet_below (by kernel_rfl) (by kernel_rfl) ?_
            repeat (go_big_quiet_step ((with_reducible exact regrown_in CR.out _)))
            refine wpQuiet_nil ?_
            intro _ hw'
            obtain ⟨pp, hw''⟩ := hw'
            subst hw''
            go_wp2_with fail
            go_ret2
            obtain ⟨rfl, rfl⟩ := HV0.out (HOK'.out.trans HBAD'.out)
            exact ⟨rfl, below_c HB1.out HB1.out.size (HBN.out pp)⟩
          · have hz1 := HZ.out rfl
            rw [if_pos rfl] at CR
            generalize lineB nm x = lb at CR hz1 HN
            clear HBAD HZ
            have hz2 : sb.size ≤ 12000 := by omega
            have HZ2 : Hid ((sb ++ lb).size ≤ (k + 1) * 2000) := by show _ ≤ _; rw [ByteArray.size_append]; omega
            go_wp2_with fail
            refine wp_region_quiet_below (by kernel_rfl) (by kernel_rfl) ?_
            repeat (go_big_quiet_step ((with_reducible exact regrown_in CR.out _)))
            refine wpQuiet_nil ?_
            intro _ hw'
            obtain ⟨pp, hw''⟩ := hw'
            subst hw''
            go_wp2_with fail
            go_roundw
            case rel => exact ⟨k + 1, _, by omega, by go_num, rfl, by show _ = _; rw [HN.out, HE.out], HZ2.out, by show _ = _; rw [HTS.out, List.all_append, HT2.out, List.all_cons, ← HBX.out]; rfl, HBN.out pp⟩
            case measure => simp [intOf]; omega
        · obtain rfl : k = ls.length := by omega
          have hz2 : sb.size ≤ 12000 := by omega
          have HALL : Hid (allAmt X = amtL X.total) := by
            show _ = _
            have h1 := HT2.out
            rw [← HL.out, List.take_length] at h1
            unfold allAmt
            rw [h1, Bool.and_true]
          have HWH := Lib.hid (text_whole ls X)
          have HTOT := Lib.hid HT.out
          have x1 := cell_of_row _ _ 1 _ _ _ K2.out
          have x2 := cell_of_row _ _ 2 _ _ _ K2.out
          have x3 := cell_of_row _ _ 3 _ _ _ K2.out
          have x4 := cell_of_row _ _ 4 _ _ _ K2.out
          have x5 := cell_of_row _ _ 5 _ _ _ K2.out
          have x6 := cell_of_row _ _ 6 _ _ _ K2.out
          have x7 := cell_of_row _ _ 7 _ _ _ K2.out
          have x8 := cell_of_row _ _ 8 _ _ _ K2.out
          have CR := Lib.hid (fun W => rrow_any totalS X.total W (by decide) HT.out.1 HT.out.2.1 HT.out.2.2)
          have HZ : Hid (amtL X.total = true → (lineB totalS X.total).size ≤ 2000) := fun h => lineB_le (by decide) h HT.out.1 HT.out.2.1 HT.out.2.2
          unfold lnA at CR
          unfold rowV totalS at CR
          unfold totalS at HZ HWH
          obtain ⟨bx, hbx⟩ : ∃ b, b = amtL X.total := ⟨_, rfl⟩
          rw [← hbx] at CR HZ HALL
          have HB := Lib.hid hb
          clear hbx hb HSR HXC HLC hlt
          cases bx
          · go_wp2_with (go_at_call 84; refine (CR.out _).mono ?_; rintro e w2 ⟨rfl, hb2⟩)
            go_ret2
            obtain ⟨rfl, rfl⟩ := HV0.out (HOK'.out.trans HALL.out)
            exact ⟨rfl, below_c HBr.out HBr.out.size hb2⟩
          · have hz1 := HZ.out rfl
            rw [if_pos rfl] at CR
            generalize lineB ⟨#[116, 111, 116, 97, 108]⟩ X.total = lb at CR hz1 HWH
            obtain ⟨hi1, hi2, hi3⟩ := HBI.out
            have z5 := itoaB_size _ hi1.lo hi1.hi
            have z6 := itoaB_size _ hi2.lo hi2.hi
            have z7 := itoaB_size _ hi3.lo hi3.hi
            have HD1 := Lib.hid (fun W => rdig_any X.buns W hi1)
            have HD2 := Lib.hid (fun W => rdig_any X.tras W hi2)
            have HD3 := Lib.hid (fun W => rdig_any X.cons W hi3)
            generalize itoaB X.buns = i1 at HD1 HWH z5
            generalize itoaB X.tras = i2 at HD2 HWH z6
            generalize itoaB X.cons = i3 at HD3 HWH z7
            clear hi1 hi2 hi3 HZ
            go_wp2_with (go_at_call 84; refine (CR.out _).mono ?_; rintro e w2 ⟨rfl, hb2⟩; have K3 := Lib.hid (blk_keep hb2 K2.out); have HB2 := Lib.hid (below_c HBr.out HBr.out.size hb2); clear hb2 x1 x2 x3 x4 x5 x6 x7 x8)
            have y1 := cells_in (cell_of_row _ _ 9 _ _ _ K3.out)
            have y2 := cells_in (cell_of_row _ _ 10 _ _ _ K3.out)
            have y3 := cells_in (cell_of_row _ _ 11 _ _ _ K3.out)
            have HBN : Hid (∀ pp : Regrown, Below w.heap.size w (grow (redrawn w2 pp.d) pp.os)) := fun pp => HB2.out.trans ((below_in w2 pp).mono HB2.out.size)
            have CD1 : Hid (∀ W, Below w2.heap.size w2 W → _) := fun W (_ : Below w2.heap.size w2 W) => HD1.out W
            have CD2 : Hid (∀ W, Below w2.heap.size w2 W → _) := fun W (_ : Below w2.heap.size w2 W) => HD2.out W
            have CD3 : Hid (∀ W, Below w2.heap.size w2 W → _) := fun W (_ : Below w2.heap.size w2 W) => HD3.out W
            refine wp_region_quiet_below (by kernel_rfl) (by kernel_rfl) ?_
            repeat (go_big_quiet_step (first
              | (with_reducible exact regrown_in CD1.out _)
              | (with_reducible exact regrown_in CD2.out _)
              | (with_reducible exact regrown_in CD3.out _)))
            refine wpQuiet_nil ?_
            intro _ hw'
            obtain ⟨pp, hw''⟩ := hw'
            subst hw''
            go_wp2_with fail
            go_ret2
            obtain ⟨h1, h2⟩ := HV1.out (HOK'.out.trans HALL.out)
            subst h2
            rw [← h1, HWH.out, ← HE.out]
            exact ⟨rfl, HBN.out pp⟩
    · rw [decide_eq_false hl] at HOK
      have HK : Hid (ok = false) := by show _ = _; rw [HOK.out]; rfl
      have hne : ((X.lines.length : Int) != (ls.length : Int)) = true := by simp; omega
      clear HOK hl
      unfold manA
      go_enter Tryz.func36, Tryz.ntmps36
      go_wp2_with fail
      rw [← HW0.out]
      refine (HSR.out _ HB0.out).mono ?_
      rintro e w1 ⟨rfl, hb1⟩
      have K1 := Lib.hid (blk_keep hb1 HBOX.out)
      have HB1 := Lib.hid (below_c HB0.out HB0.out.size hb1)
      have x0 := cell_of_row _ _ 0 _ _ _ K1.out
      clear hb1
      go_wp2_with fail
      go_ret2
      obtain ⟨rfl, rfl⟩ := HV0.out HK.out
      exact ⟨rfl, HB1.out⟩
end Go.Proofs.YtojedplbhialpaaGreatDoor
