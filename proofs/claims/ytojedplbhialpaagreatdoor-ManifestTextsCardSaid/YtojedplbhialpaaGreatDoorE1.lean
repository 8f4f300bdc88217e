/-
  manifest.Text at any manifest.
-/
import Derived.Test.YtojedplbhialpaaGreatDoorGR
namespace Go.Proofs.YtojedplbhialpaaGreatDoor
open Go.RowKit
set_option linter.unusedVariables false
set_option maxRecDepth 100000
set_option maxHeartbeats 8000000 in
/-- Text where an amount can't be written. -/
theorem text_bad {ls : List Lev} {X : Man} {vl v : Value} (w : World) (hr : RdLevs w vl ls) (hri : rightB ls = true) (hx : RdLns w v X.lines) (hl : X.lines.length = ls.length) (hbad : allAmt X = false) :
    Calls Tryz.prog 20 #[vl, manA X v] w fun e w' => e = .returned (.tuple #[.string ⟨#[]⟩, .int .i64 2]) ∧ Below w.heap.size w w' := by
  have hl6 := right_len hri
  obtain ⟨W0, hW0⟩ : ∃ W0, W0 = w.alloc (.cells #[v, .int .i64 X.total.level, .int .i64 X.total.pieces, .int .i64 X.total.barred, .int .i64 X.total.grams, .int .i64 X.total.base, .int .i64 X.total.bar, .int .i64 X.total.saved, .int .i64 X.total.cents, .int .i64 X.buns, .int .i64 X.tras, .int .i64 X.cons] 44) := ⟨_, rfl⟩
  have hbox : W0.heap[w.heap.size]? = some (.cells #[v, .int .i64 X.total.level, .int .i64 X.total.pieces, .int .i64 X.total.barred, .int .i64 X.total.grams, .int .i64 X.total.base, .int .i64 X.total.bar, .int .i64 X.total.saved, .int .i64 X.total.cents, .int .i64 X.buns, .int .i64 X.tras, .int .i64 X.cons] 44) := by rw [hW0]; exact alloc_new w _
  have hb0 : Below w.heap.size w W0 := by rw [hW0]; exact (Below.refl _ w).alloc (Nat.le_refl _) _
  have hs0 : W0.heap.size = w.heap.size + 1 := by rw [hW0]; simp
  have HSR := Lib.hid (fun W (hW : Below w.heap.size w W) => right_any ls vl W (hr.below hW) (right_fits hri) (by unfold maxLen; omega))
  rw [hri] at HSR
  have HAT := Lib.hid (fun W => amounts_any X.total W)
  unfold lnA at HAT
  unfold allAmt at hbad
  obtain ⟨al, cl, rfl, hlc⟩ := hr
  obtain ⟨ax, cx, rfl, hxc⟩ := hx
  have HXC := Lib.hid hxc
  have HW0 := Lib.hid hW0
  have HB0 := Lib.hid hb0
  have HBOX := Lib.hid hbox
  have hlx6 : X.lines.length ≤ 6 := by omega
  have hne : ((X.lines.length : Int) != (ls.length : Int)) = false := by rw [hl]; simp
  generalize amtL X.total = bt at HAT hbad
  have HBAD := Lib.hid hbad
  clear hlc hxc hW0 hb0 hbox hri hl hbad
  unfold manA
  cases bt
  all_goals
    go_enter Tryz.func20, Tryz.ntmps20
    go_wp2_with fail
    rw [← HW0.out]
    refine (HSR.out _ HB0.out).mono ?_
    rintro e w1 ⟨rfl, hb1⟩
    have hs1 := hb1.size
    have k1 := (hb1.block w.heap.size (by omega)).trans HBOX.out
    have x0 := cell_of_row _ _ 0 _ _ _ k1
    have x1 := cell_of_row _ _ 1 _ _ _ k1
    have x2 := cell_of_row _ _ 2 _ _ _ k1
    have x3 := cell_of_row _ _ 3 _ _ _ k1
    have x4 := cell_of_row _ _ 4 _ _ _ k1
    have x5 := cell_of_row _ _ 5 _ _ _ k1
    have x6 := cell_of_row _ _ 6 _ _ _ k1
    have x7 := cell_of_row _ _ 7 _ _ _ k1
    have x8 := cell_of_row _ _ 8 _ _ _ k1
    have HB1 := Lib.hid (below_c HB0.out HB0.out.size hb1)
    have K1 := Lib.hid k1
    clear k1 hb1
  · go_wp2_with (go_at_call 52; refine (HAT.out _).mono ?_; rintro e w2 ⟨rfl, hb2⟩; have HB2 := Lib.hid (below_c HB1.out HB1.out.size hb2); clear hb2 x0 x1 x2 x3 x4 x5 x6 x7 x8 K1)
    go_ret2
    exact ⟨rfl, HB2.out⟩
  · go_wp2_with (go_at_call 52; refine (HAT.out _).mono ?_; rintro e w2 ⟨rfl, hb2⟩; have k2 := (hb2.block w.heap.size (by omega)).trans K1.out; have y0 := cell_of_row _ _ 0 _ _ _ k2; have K2 := Lib.hid k2; have hs2 := hb2.size; have HB2 := Lib.hid (below_c HB1.out HB1.out.size hb2); clear k2 hb2 x0 x1 x2 x3 x4 x5 x6 x7 x8 K1)
    go_loopw [32] (fun i wr => ∃ k : Nat, k ≤ X.lines.length ∧ i = .int .i64 k ∧ Below w2.heap.size w2 wr ∧ Hid ((X.lines.take k).all amtL = true)) (fun i _ => X.lines.length - (intOf i).toNat)
    case atStart => exact ⟨0, Nat.zero_le _, rfl, Below.refl _ _, rfl⟩
    case round =>
      obtain ⟨k, hk, rfl, hb, HT⟩ := hrel
      have HB := Lib.hid hb
      have hsz := hb.size
      by_cases hlt : k < X.lines.length
      · obtain ⟨g, off, rfl, hg, hcell⟩ := HXC.out (by omega)
        have hB := below_c HB2.out HB2.out.size hb
        have hc := hcell k hlt
        have HTS : Hid (X.lines.take (k + 1) = X.lines.take k ++ [X.lines[k]]) := by show _ = _; exact List.take_succ_eq_append_getElem hlt
        generalize X.lines[k] = x at hc HTS
        have c0 := (hB.cell (p := ⟨g, off + k * 8, none⟩) hg).trans (hc 0 _ rfl)
        have c1 := (hB.cell (p := ⟨g, off + k * 8 + 1, none⟩) hg).trans (hc 1 _ rfl)
        have c2 := (hB.cell (p := ⟨g, off + k * 8 + 2, none⟩) hg).trans (hc 2 _ rfl)
        have c3 := (hB.cell (p := ⟨g, off + k * 8 + 3, none⟩) hg).trans (hc 3 _ rfl)
        have c4 := (hB.cell (p := ⟨g, off + k * 8 + 4, none⟩) hg).trans (hc 4 _ rfl)
        have c5 := (hB.cell (p := ⟨g, off + k * 8 + 5, none⟩) hg).trans (hc 5 _ rfl)
        have c6 := (hB.cell (p := ⟨g, off + k * 8 + 6, none⟩) hg).trans (hc 6 _ rfl)
        have c7 := (hB.cell (p := ⟨g, off + k * 8 + 7, none⟩) hg).trans (hc 7 _ rfl)
        have hgr : g < wr.heap.size := by have := hB.size; omega
        have HAX := Lib.hid (fun W => amounts_any x W)
        unfold lnA at HAX
        obtain ⟨bx, hbx⟩ : ∃ b, b = amtL x := ⟨_, rfl⟩
        rw [← hbx] at HAX
        have HBX := Lib.hid hbx
        clear hcell hc hB hb HAT y0 HSR HXC hbx
        cases bx
        · go_wp2_with (go_at_call 52; refine (HAX.out _).mono ?_; rintro e w3 ⟨rfl, hb3⟩; have HB3 := Lib.hid (below_c (HB.out.alloc HB.out.size _) (by simp; omega) hb3); clear hb3)
          go_ret2
          exact ⟨rfl, below_c HB2.out HB2.out.size HB3.out⟩
        · go_wp2_with (go_at_call 52; refine (HAX.out _).mono ?_; rintro e w3 ⟨rfl, hb3⟩; have HB3 := Lib.hid (below_c (HB.out.alloc HB.out.size _) (by simp; omega) hb3); clear hb3)
          go_roundw
          case rel => exact ⟨k + 1, by omega, by go_num, HB3.out, by show _ = _; rw [HTS.out, List.all_append, HT.out, List.all_cons, ← HBX.out]; rfl⟩
          case measure => simp [intOf]; omega
      · obtain rfl : k = X.lines.length := by omega
        have h1 := HT.out
        rw [List.take_length] at h1
        have h2 := HBAD.out
        rw [h1] at h2
        cases h2
theorem textP_any {ls : List Lev} {X : Man} {vl v : Value} (w : World) (hr : RdLevs w vl ls) (hf : ∀ l ∈ ls, LevFits l) (hll : ls.length ≤ 100000) (hx : RdLns w v X.lines) (ht : I64 X.total.pieces ∧ I64 X.total.barred ∧ I64 X.total.grams) (hlt : ∀ l ∈ X.lines, I64 l.pieces ∧ I64 l.barred ∧ I64 l.grams)
    (hb : I64 X.buns) (htr : I64 X.tras) (hc : I64 X.cons) (htb : TabW w) :
    Calls Tryz.prog 20 #[vl, manA X v] w fun e w' => e = .returned (.tuple #[.string (textV ls X).1, .int .i64 (textV ls X).2]) ∧ Below w.heap.size w w' := by
  have hxf : ∃ a n c, v = .slice a n c ∧ n = X.lines.length := by obtain ⟨a, c, h, _⟩ := hx; exact ⟨a, _, c, h, rfl⟩
  unfold textV textOk
  by_cases h1 : rightB ls = true
  · by_cases h2 : X.lines.length = ls.length
    · by_cases h3 : allAmt X = true
      · rw [h1, h2, h3, decide_eq_true rfl]
        unfold allAmt at h3
        rw [Bool.and_eq_true] at h3
        exact text_any w hr h1 hx h2 ⟨h3.1, ht.1, ht.2.1, ht.2.2⟩ (fun l hl => ⟨List.all_eq_true.1 h3.2 l hl, (hlt l hl).1, (hlt l hl).2.1, (hlt l hl).2.2⟩) hb htr hc htb
      · rw [Bool.not_eq_true] at h3
        rw [h1, h2, h3, decide_eq_true rfl]
        exact text_bad w hr h1 hx h2 h3
    · rw [h1, decide_eq_false h2]
      exact text_no w hr hf hll hxf (.inr h2)
  · rw [Bool.not_eq_true] at h1
    rw [h1]
    exact text_no w hr hf hll hxf (.inl h1)
end Go.Proofs.YtojedplbhialpaaGreatDoor
