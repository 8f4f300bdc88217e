/-
  letterbaglaw27.manifestTexts.
-/
import Derived.Test.YtojedplbhialpaaGreatDoorE8R
import Derived.BigRegion
import Derived.Deep.RegionWith
import Derived.Deep.DeepCutAuto
namespace Go.Proofs.YtojedplbhialpaaGreatDoor
open Go.RowKit Go.Sort
set_option linter.unusedVariables false
set_option maxRecDepth 100000
set_option maxHeartbeats 32000000 in
theorem manifestTexts1_any (ls : List Lev) (X : Man) (v u : Value) (w : World) (hr : RdLevN w v ls) (hb : ∀ l ∈ ls, l.labs.length ≤ 4398046511104 ∧ l.name.size ≤ maxLen ∧ ∀ x ∈ l.labs, x.pre.size ≤ maxLen ∧ x.grp.size ≤ maxLen) (hl : ls.length ≤ maxLen)
    (hx : RdLns w u X.lines) (hnil : NilOk u) (hi : I64 X.buns ∧ I64 X.tras ∧ I64 X.cons) (hit : I64 X.total.pieces ∧ I64 X.total.barred ∧ I64 X.total.grams) (hil : ∀ l ∈ X.lines, I64 l.pieces ∧ I64 l.barred ∧ I64 l.grams) (htb : TabW w) (hxl : X.lines.length ≤ 4398046511104) :
    Calls Tryz.prog 10 #[v, manA X u] w fun e w' => e = .returned (.bool true) ∧ Below w.heap.size w w' := by
  have HFW := Lib.hid (fun W (hW : Below w.heap.size w W) => few27_any ls v W (hr.reads.below hW) (fun l h => (hb l h).1) hl)
  obtain ⟨W0, hW0⟩ : ∃ W0, W0 = w.alloc (manBox X u) := ⟨_, rfl⟩
  have hbox : W0.heap[w.heap.size]? = some (manBox X u) := by rw [hW0]; exact alloc_new w _
  have hb0 : Below w.heap.size w W0 := by rw [hW0]; exact (Below.refl _ w).alloc (Nat.le_refl _) _
  have HW0 := Lib.hid hW0
  have HB0 := Lib.hid hb0
  have HBOX := Lib.hid hbox
  unfold manBox at HW0
  cases hfew : few27B ls
  · rw [hfew] at HFW
    obtain ⟨a, cap, rfl, _⟩ := hr
    obtain ⟨ax, cx, rfl, _⟩ := hx
    clear hb hfew hW0 hbox hb0
    unfold manA
    go_enter Tryz.func10, Tryz.ntmps10
    go_wp2_with fail
    rw [← HW0.out]
    refine (HFW.out _ HB0.out).mono ?_
    rintro e w1 ⟨rfl, hb1⟩
    have HB1 := Lib.hid (below_c HB0.out HB0.out.size hb1)
    clear hb1
    go_wp2_with fail
    go_ret
    exact ⟨rfl, HB1.out⟩
  · rw [hfew] at HFW
    obtain ⟨h10, h300⟩ := few27_each hfew
    by_cases h20 : X.lines.length ≤ 20
    · have hgt : decide ((X.lines.length : Int) > 20) = false := decide_eq_false (by omega)
      have hgt2 : decide ((20 : Int) < (X.lines.length : Int)) = false := decide_eq_false (by omega)
      have hfit : ∀ l ∈ ls, LevFits l := fun l h => ⟨(hb l h).2.1, by have := h300 l h; omega, (hb l h).2.2⟩
      have HL0 : Hid (∀ W, Below w.heap.size w W → Calls Tryz.prog 24 #[v] W fun e w' => ∃ gu, e = .returned (.slice (some ⟨gu, 0, none⟩) ls.length (ls.length + 12)) ∧ Below W.heap.size W w' ∧ LentLevs w' W.heap.size (.slice (some ⟨gu, 0, none⟩) ls.length (ls.length + 12)) ls) := fun W hW => by
        refine (lentLevels_any ls v W (hr.below hW) (fun l h => by have := h300 l h; omega) (by omega)).mono ?_
        rintro e w' ⟨y, rfl, h1, h2⟩
        obtain ⟨gu, rfl, h3⟩ := id h1
        exact ⟨gu, rfl, h2, h1⟩
      have HM0 : Hid (∀ W, Below w.heap.size w W → Calls Tryz.prog 32 #[manA X u] W fun e w' => ∃ gy, e = .returned (manA X (.slice (some ⟨gy, 0, none⟩) X.lines.length (X.lines.length + 12))) ∧ Below W.heap.size W w' ∧ LentLn w' W.heap.size (.slice (some ⟨gy, 0, none⟩) X.lines.length (X.lines.length + 12)) X.lines) := fun W hW => by
        refine (lentMan_any X u W (hx.below hW) hnil (by omega)).mono ?_
        rintro e w' ⟨y, rfl, h1, h2⟩
        obtain ⟨gy, rfl, h3⟩ := id h1
        exact ⟨gy, rfl, h2, h1⟩
      have HT1 : Hid (∀ W U Y, Below w.heap.size w W → RdLevs W U ls → RdLns W Y X.lines → Calls Tryz.prog 20 #[U, manA X Y] W fun e w' => e = .returned (.tuple #[.string (textV ls X).1, .int .i64 (textV ls X).2]) ∧ Below W.heap.size W w') := fun W U Y hW h1 h2 =>
        textP_any W h1 hfit (by omega) h2 hit hil hi.1 hi.2.1 hi.2.2 (htb.below hW)
      have HT2 : Hid (∀ W, Below w.heap.size w W → Calls Tryz.prog 36 #[v, manA X u] W fun e w' => e = .returned (.tuple #[.string (textV ls X).1, .int .i64 (textV ls X).2]) ∧ Below W.heap.size W w') := fun W hW =>
        rtext_any W (hr.reads.below hW) hfit hl (hx.below hW) hit hil hi.1 hi.2.1 hi.2.2
      have HK1 : Hid (∀ W U B, LentLevs W B U ls → Below w.heap.size w W → Calls Tryz.prog 28 #[U, v] W fun e w' => e = .returned (.bool true) ∧ Below W.heap.size W w') := fun W U B hu hW => keptLevels_true ls U v B W hu (hr.reads.below hW) (fun l h => by have := h300 l h; omega) (by omega)
      have HK2 : Hid (∀ W Y B, LentLn W B Y X.lines → Below w.heap.size w W → Calls Tryz.prog 35 #[manA X Y, manA X u] W fun e w' => e = .returned (.bool true) ∧ Below W.heap.size W w') := fun W Y B hy hW => keptMan_true X Y u B W hy (hx.below hW) (by omega)
      obtain ⟨a, cap, rfl, _⟩ := hr
      obtain ⟨ax, cx, rfl, _⟩ := hx
      clear hb hfew hW0 hbox hb0 hfit hi hit hil htb hxl hnil h300
      have hbe := ba_eq (textV ls X).1 (textV ls X).1
      rw [decide_eq_true rfl] at hbe
      generalize (textV ls X).1 = tx at HT1 HT2 hbe
      generalize (textV ls X).2 = te at HT1 HT2
      have hte : (te == te) = true := by simp
      unfold manA at HM0 HT1 HT2 HK2 ⊢
      go_enter Tryz.func10, Tryz.ntmps10
      go_wp2_with fail
      rw [← HW0.out]
      refine (HFW.out _ HB0.out).mono ?_
      rintro e wr ⟨rfl, hb1⟩
      have HB1 := Lib.hid (below_c HB0.out HB0.out.size hb1)
      have K1 := Lib.hid (blk_keep hb1 HBOX.out)
      obtain ⟨x0, x1, x2, x3, x4, x5, x6, x7, x8, x9, x10, x11⟩ := cells12m K1.out
      have hzr : w.heap.size < wr.heap.size := (Array.getElem?_eq_some_iff.1 K1.out).1
      clear hb1 HFW HW0 HB0
      go_upto_region 3 with fail
      refine use_region (ops' := ops27t3) (by kernel_rfl) (reg27t3 _ wr _ (g0 := w.heap.size) (ls := ls) (X := X) (v := .slice a ls.length cap) (u := .slice ax X.lines.length cx) (by simp) (fun _ _ _ _ _ h => h) rfl rfl ?_ ?_ ?_ ?_)
      · intro W hW
        exact blk_keep hW K1.out
      · intro W hW
        refine (HL0.out W (below_c HB1.out HB1.out.size hW)).mono ?_
        rintro e w' ⟨gu, rfl, h1, h2⟩
        exact ⟨_, rfl, h1, lent_step hW h1, gu, rfl, h2⟩
      · intro W hW
        refine (HM0.out W (below_c HB1.out HB1.out.size hW)).mono ?_
        rintro e w' ⟨gy, rfl, h1, h2⟩
        exact ⟨_, rfl, h1, lent_step hW h1, gy, rfl, h2⟩
      intro a' x p wk hsz' hev hdf h5 h6 hcut
      rw [restore_eq (a' := a') [5, 6, 23, 24, 25, 26] hsz' (fun n hn => hev n (by simp at hn; omega)) hdf]
      simp only [restore, h5, h6]
      generalize Act.eval a' (.tmp 23) = u23
      generalize Act.eval a' (.tmp 24) = u24
      generalize Act.eval a' (.tmp 25) = u25
      generalize Act.eval a' (.tmp 26) = u26
      simp only [Act.put, List.setIfInBounds_toArray, List.set_cons_succ, List.set_cons_zero]
      clear hev hdf h5 h6 hsz' HL0 HM0
      obtain ⟨gu, gy, g, rfl, rfl, hg, hbk, hgk, hlk, hyk⟩ := hcut
      obtain ⟨m0, m1, m2, m3, m4, m5, m6, m7, m8, m9, m10, m11⟩ := cells12m hgk
      have HGK := Lib.hid hgk
      have HLK := Lib.hid hlk
      have HYK := Lib.hid hyk
      have K2 := Lib.hid (blk_keep hbk K1.out)
      have HBK := Lib.hid (below_c HB1.out HB1.out.size hbk)
      clear hgk hlk hyk x0 x1 x2 x3 x4 x5 x6 x7 x8 x9 x10 x11 hbk
      have HT1' := Lib.hid (HT1.out _ _ _ HBK.out HLK.out.reads HYK.out.reads)
      go_wp2_with fail
      refine HT1'.out.mono ?_
      rintro e w3 ⟨rfl, hb3⟩
      have HG3 := Lib.hid (blk_keep hb3 HGK.out)
      have HK3 := Lib.hid (blk_keep hb3 K2.out)
      have HL3 := Lib.hid (HLK.out.below hb3)
      have HY3 := Lib.hid (HYK.out.below hb3)
      have HB3 := Lib.hid (below_c HBK.out HBK.out.size hb3)
      obtain ⟨x0, x1, x2, x3, x4, x5, x6, x7, x8, x9, x10, x11⟩ := cells12m HK3.out
      clear HGK K2 HLK HYK HBK HT1 HT1' hb3 m0 m1 m2 m3 m4 m5 m6 m7 m8 m9 m10 m11
      go_wp2_with fail
      refine (HT2.out _ HB3.out).mono ?_
      rintro e w4 ⟨rfl, hb4⟩
      have HG4 := Lib.hid (blk_keep hb4 HG3.out)
      have HK4 := Lib.hid (blk_keep hb4 HK3.out)
      have HL4 := Lib.hid (HL3.out.below hb4)
      have HY4 := Lib.hid (HY3.out.below hb4)
      have HB4 := Lib.hid (below_c HB3.out HB3.out.size hb4)
      clear HG3 HK3 HL3 HY3 HB3 HT2 hb4 x0 x1 x2 x3 x4 x5 x6 x7 x8 x9 x10 x11
      go_wp2_with fail
      refine (HK1.out _ _ _ HL4.out HB4.out).mono ?_
      rintro e w5 ⟨rfl, hb5⟩
      obtain ⟨m0, m1, m2, m3, m4, m5, m6, m7, m8, m9, m10, m11⟩ := cells12m (blk_keep hb5 HG4.out)
      obtain ⟨x0, x1, x2, x3, x4, x5, x6, x7, x8, x9, x10, x11⟩ := cells12m (blk_keep hb5 HK4.out)
      have HY5 := Lib.hid (HY4.out.below hb5)
      have HB5 := Lib.hid (below_c HB4.out HB4.out.size hb5)
      clear HG4 HK4 HL4 HY4 HB4 HK1 hb5
      go_wp2_with fail
      refine (HK2.out _ _ _ HY5.out HB5.out).mono ?_
      rintro e w6 ⟨rfl, hb6⟩
      have HB6 := Lib.hid (below_c HB5.out HB5.out.size hb6)
      clear hb6 HB5
      go_wp2_with fail
      go_ret
      exact ⟨rfl, HB6.out⟩
    · have hgt : decide ((X.lines.length : Int) > 20) = true := decide_eq_true (by omega)
      have hgt2 : decide ((20 : Int) < (X.lines.length : Int)) = true := decide_eq_true (by omega)
      obtain ⟨a, cap, rfl, _⟩ := hr
      obtain ⟨ax, cx, rfl, _⟩ := hx
      clear hb hfew hW0 hbox hb0 hi hit hil
      unfold manA
      go_enter Tryz.func10, Tryz.ntmps10
      go_wp2_with fail
      rw [← HW0.out]
      refine (HFW.out _ HB0.out).mono ?_
      rintro e w1 ⟨rfl, hb1⟩
      have HB1 := Lib.hid (below_c HB0.out HB0.out.size hb1)
      have K1 := Lib.hid (blk_keep hb1 HBOX.out)
      have x0 := cell_of_row _ _ 0 _ _ _ K1.out
      clear hb1
      go_wp2_with fail
      go_ret
      exact ⟨rfl, HB1.out⟩
end Go.Proofs.YtojedplbhialpaaGreatDoor
