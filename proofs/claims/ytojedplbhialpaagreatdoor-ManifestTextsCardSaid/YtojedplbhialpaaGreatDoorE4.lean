/-
  The reference's text of a line.
-/
import Derived.Test.YtojedplbhialpaaGreatDoorE3
namespace Go.Proofs.YtojedplbhialpaaGreatDoor
open Go.RowKit Go.Sort
set_option linter.unusedVariables false
set_option maxRecDepth 100000
-- T0
theorem blk_keep {A B : World} {b : Nat} {o : Obj} (h : Below A.heap.size A B) (hk : A.heap[b]? = some o) : B.heap[b]? = some o := by
  have hb : b < A.heap.size := by
    rcases Nat.lt_or_ge b A.heap.size with h' | h'
    · exact h'
    · rw [Array.getElem?_eq_none h'] at hk; cases hk
  exact (h.block b hb).trans hk
theorem rmon_range (c : Int) : (rmon c).2 = 0 ∧ amtB c = true ∨ (rmon c).2 = 2 ∧ amtB c = false := by
  unfold rmon
  cases amtB c
  · exact .inr ⟨rfl, rfl⟩
  · exact .inl ⟨rfl, rfl⟩
theorem rmon_size (c : Int) (h : amtB c = true) : (rmon c).1 = moneyB c := by unfold rmon; rw [if_pos h]
theorem rmon_sum (l : Ln) : ((rmon l.base).2 + (rmon l.bar).2 + (rmon l.saved).2 + (rmon l.cents).2 != 0) = !amtL l := by
  unfold amtL
  rcases rmon_range l.base with ⟨a, a'⟩ | ⟨a, a'⟩ <;> rcases rmon_range l.bar with ⟨b, b'⟩ | ⟨b, b'⟩ <;> rcases rmon_range l.saved with ⟨c, c'⟩ | ⟨c, c'⟩ <;> rcases rmon_range l.cents with ⟨d, d'⟩ | ⟨d, d'⟩ <;> rw [a, b, c, d, a', b', c', d'] <;> rfl
theorem line_text (nm : ByteArray) (l : Ln) :
    lineB nm l = nm ++ ⟨#[32]⟩ ++ itoaB l.pieces ++ ⟨#[32]⟩ ++ itoaB l.barred ++ ⟨#[32]⟩ ++ itoaB l.grams ++ ⟨#[32]⟩ ++ moneyB l.base ++ ⟨#[32]⟩ ++ moneyB l.bar ++ ⟨#[32]⟩ ++ moneyB l.saved ++ ⟨#[32]⟩ ++ moneyB l.cents ++ ⟨#[10]⟩ := by
  apply ByteArray.ext
  apply Array.toList_inj.1
  simp [lineB, wordsB, restB, wordsL, ByteArray.data_append]
def rowV (nm : ByteArray) (l : Ln) : ByteArray := if amtL l then lineB nm l else ⟨#[]⟩
set_option maxHeartbeats 8000000 in
theorem rrow_any (nm : ByteArray) (l : Ln) (w : World) (hn : nm.size ≤ 1000) (hp : I64 l.pieces) (hb : I64 l.barred) (hg : I64 l.grams) :
    Calls Tryz.prog 84 #[.string nm, lnA l] w fun e w' => e = .returned (.tuple #[.string (rowV nm l), .bool (amtL l)]) ∧ Below w.heap.size w w' := by
  obtain ⟨W0, hW0⟩ : ∃ W0, W0 = w.alloc (.cells #[.int .i64 l.level, .int .i64 l.pieces, .int .i64 l.barred, .int .i64 l.grams, .int .i64 l.base, .int .i64 l.bar, .int .i64 l.saved, .int .i64 l.cents] 42) := ⟨_, rfl⟩
  have k0 : W0.heap[w.heap.size]? = some (.cells #[.int .i64 l.level, .int .i64 l.pieces, .int .i64 l.barred, .int .i64 l.grams, .int .i64 l.base, .int .i64 l.bar, .int .i64 l.saved, .int .i64 l.cents] 42) := by rw [hW0]; exact alloc_new w _
  have hb0 : Below w.heap.size w W0 := by rw [hW0]; exact (Below.refl _ w).alloc (Nat.le_refl _) _
  have HS := Lib.hid (rmon_sum l)
  have HL := Lib.hid (line_text nm l)
  have r1 := rmon_range l.base
  have r2 := rmon_range l.bar
  have r3 := rmon_range l.saved
  have r4 := rmon_range l.cents
  have v1 : 0 ≤ (rmon l.base).2 ∧ (rmon l.base).2 ≤ 2 := by omega
  have v2 : 0 ≤ (rmon l.bar).2 ∧ (rmon l.bar).2 ≤ 2 := by omega
  have v3 : 0 ≤ (rmon l.saved).2 ∧ (rmon l.saved).2 ≤ 2 := by omega
  have v4 : 0 ≤ (rmon l.cents).2 ∧ (rmon l.cents).2 ≤ 2 := by omega
  have HM : Hid (∀ W, _) := Lib.hid (fun W => And.intro (rmon_any l.base W) (And.intro (rmon_any l.bar W) (And.intro (rmon_any l.saved W) (rmon_any l.cents W))))
  have HW0 := Lib.hid hW0
  have HB0 := Lib.hid hb0
  have K0 := Lib.hid k0
  by_cases ha : amtL l = true
  · have hq : amtB l.base = true ∧ amtB l.bar = true ∧ amtB l.saved = true ∧ amtB l.cents = true := by
      unfold amtL at ha
      rw [Bool.and_eq_true, Bool.and_eq_true, Bool.and_eq_true] at ha
      exact ⟨ha.1.1.1, ha.1.1.2, ha.1.2, ha.2⟩
    have e1 := rmon_size _ hq.1
    have e2 := rmon_size _ hq.2.1
    have e3 := rmon_size _ hq.2.2.1
    have e4 := rmon_size _ hq.2.2.2
    have z1 := moneyB_size hq.1
    have z2 := moneyB_size hq.2.1
    have z3 := moneyB_size hq.2.2.1
    have z4 := moneyB_size hq.2.2.2
    have z5 := itoaB_size _ hp.lo hp.hi
    have z6 := itoaB_size _ hb.lo hb.hi
    have z7 := itoaB_size _ hg.lo hg.hi
    have HV : Hid (rowV nm l = lineB nm l) := by show _ = _; unfold rowV; rw [if_pos ha]
    rw [e1, e2, e3, e4] at HM
    rw [ha] at HS ⊢
    have HD1 := Lib.hid (fun W => rdig_any l.pieces W hp)
    have HD2 := Lib.hid (fun W => rdig_any l.barred W hb)
    have HD3 := Lib.hid (fun W => rdig_any l.grams W hg)
    have hs := HS.out
    clear e1 e2 e3 e4 hq r1 r2 r3 r4 ha hW0 hb0 k0 HS hp hb hg
    unfold lnA
    generalize (rmon l.base).2 = n1 at HM hs v1
    generalize (rmon l.bar).2 = n2 at HM hs v2
    generalize (rmon l.saved).2 = n3 at HM hs v3
    generalize (rmon l.cents).2 = n4 at HM hs v4
    generalize moneyB l.base = m1 at HM HL z1
    generalize moneyB l.bar = m2 at HM HL z2
    generalize moneyB l.saved = m3 at HM HL z3
    generalize moneyB l.cents = m4 at HM HL z4
    generalize itoaB l.pieces = i1 at HD1 HL z5
    generalize itoaB l.barred = i2 at HD2 HL z6
    generalize itoaB l.grams = i3 at HD3 HL z7
    generalize rowV nm l = rv at HV ⊢
    generalize lineB nm l = lb at HV HL
    have x4 := cell_of_row _ _ 4 _ _ _ K0.out
    go_enter Tryz.func84, Tryz.ntmps84
    go_wp2_with fail
    rw [← HW0.out]
    refine ((HM.out _).1).mono ?_
    rintro e w1 ⟨rfl, hb1⟩
    have K1 := Lib.hid (blk_keep hb1 K0.out)
    have HB1 := Lib.hid (below_c HB0.out HB0.out.size hb1)
    have x5 := cell_of_row _ _ 5 _ _ _ K1.out
    clear x4 hb1
    go_wp2_with fail
    refine ((HM.out _).2.1).mono ?_
    rintro e w2 ⟨rfl, hb2⟩
    have K2 := Lib.hid (blk_keep hb2 K1.out)
    have HB2 := Lib.hid (below_c HB1.out HB1.out.size hb2)
    have x6 := cell_of_row _ _ 6 _ _ _ K2.out
    clear x5 hb2
    go_wp2_with fail
    refine ((HM.out _).2.2.1).mono ?_
    rintro e w3 ⟨rfl, hb3⟩
    have K3 := Lib.hid (blk_keep hb3 K2.out)
    have HB3 := Lib.hid (below_c HB2.out HB2.out.size hb3)
    have x7 := cell_of_row _ _ 7 _ _ _ K3.out
    clear x6 hb3
    go_wp2_with fail
    refine ((HM.out _).2.2.2).mono ?_
    rintro e w4 ⟨rfl, hb4⟩
    have K4 := Lib.hid (blk_keep hb4 K3.out)
    have HB4 := Lib.hid (below_c HB3.out HB3.out.size hb4)
    have y1 := cells_in (cell_of_row _ _ 1 _ _ _ K4.out)
    have y2 := cells_in (cell_of_row _ _ 2 _ _ _ K4.out)
    have y3 := cells_in (cell_of_row _ _ 3 _ _ _ K4.out)
    have HBN : Hid (∀ pp : Regrown, Below w.heap.size w (grow (redrawn w4 pp.d) pp.os)) := fun pp => HB4.out.trans ((below_in w4 pp).mono HB4.out.size)
    have CD1 : Hid (∀ W, Below w4.heap.size w4 W → _) := fun W (_ : Below w4.heap.size w4 W) => HD1.out W
    have CD2 : Hid (∀ W, Below w4.heap.size w4 W → _) := fun W (_ : Below w4.heap.size w4 W) => HD2.out W
    have CD3 : Hid (∀ W, Below w4.heap.size w4 W → _) := fun W (_ : Below w4.heap.size w4 W) => HD3.out W
    clear x7 hb4
    go_wp2_with fail
    refine wp_region_quiet_below (by kernel_rfl) (by kernel_rfl) ?_
    repeat (go_big_quiet_step (first
      | (with_reducible exact regrown_in CD1.out _)
      | (with_reducible exact regrown_in CD2.out _)
      | (with_reducible exact regrown_in CD3.out _)))
    refine wpQuiet_nil ?_
    intro _ hw'
    obtain ⟨pp, hw''⟩ := hw'
    subst hw''
    go_wp2_with fail
    go_ret2
    exact ⟨by rw [HV.out, HL.out]; rfl, HBN.out pp⟩
  · rw [Bool.not_eq_true] at ha
    have HV : Hid (rowV nm l = ⟨#[]⟩) := by show _ = _; unfold rowV; rw [ha]; rfl
    rw [ha] at HS ⊢
    have hs := HS.out
    clear r1 r2 r3 r4 ha hW0 hb0 k0 HS hp hb hg HL
    unfold lnA
    generalize (rmon l.base).2 = n1 at HM hs v1
    generalize (rmon l.bar).2 = n2 at HM hs v2
    generalize (rmon l.saved).2 = n3 at HM hs v3
    generalize (rmon l.cents).2 = n4 at HM hs v4
    generalize rowV nm l = rv at HV ⊢
    have x4 := cell_of_row _ _ 4 _ _ _ K0.out
    go_enter Tryz.func84, Tryz.ntmps84
    go_wp2_with fail
    rw [← HW0.out]
    refine ((HM.out _).1).mono ?_
    rintro e w1 ⟨rfl, hb1⟩
    have K1 := Lib.hid (blk_keep hb1 K0.out)
    have HB1 := Lib.hid (below_c HB0.out HB0.out.size hb1)
    have x5 := cell_of_row _ _ 5 _ _ _ K1.out
    clear x4 hb1
    go_wp2_with fail
    refine ((HM.out _).2.1).mono ?_
    rintro e w2 ⟨rfl, hb2⟩
    have K2 := Lib.hid (blk_keep hb2 K1.out)
    have HB2 := Lib.hid (below_c HB1.out HB1.out.size hb2)
    have x6 := cell_of_row _ _ 6 _ _ _ K2.out
    clear x5 hb2
    go_wp2_with fail
    refine ((HM.out _).2.2.1).mono ?_
    rintro e w3 ⟨rfl, hb3⟩
    have K3 := Lib.hid (blk_keep hb3 K2.out)
    have HB3 := Lib.hid (below_c HB2.out HB2.out.size hb3)
    have x7 := cell_of_row _ _ 7 _ _ _ K3.out
    clear x6 hb3
    go_wp2_with fail
    refine ((HM.out _).2.2.2).mono ?_
    rintro e w4 ⟨rfl, hb4⟩
    have HB4 := Lib.hid (below_c HB3.out HB3.out.size hb4)
    clear x7 hb4
    go_wp2_with fail
    go_ret2
    exact ⟨by rw [HV.out]; rfl, HB4.out⟩
end Go.Proofs.YtojedplbhialpaaGreatDoor
