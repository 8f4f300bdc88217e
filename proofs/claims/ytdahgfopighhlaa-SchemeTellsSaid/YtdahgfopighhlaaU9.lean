/-
  The kit's SameLabels, SameLevel, KeptLabels, KeptLevel, KeptLevels at what is the same.
-/
import Derived.Test.YtdahgfopighhlaaU8
namespace Go.Proofs.Ytdahgfopighhlaa
open Go.RowKit Go.Sort
set_option linter.unusedVariables false
set_option maxRecDepth 100000
set_option maxHeartbeats 4000000 in
theorem sameLabels_true (labs : List Lab) (va vb : Value) (w : World) (ha : RdLabs w va labs) (hb : RdLabs w vb labs) (hl : labs.length ≤ 100000) :
    Calls Try.prog 69 #[va, vb] w fun e w' => e = .returned (.bool true) ∧ Below w.heap.size w w' := by
  obtain ⟨a, ca, rfl, hca⟩ := ha
  obtain ⟨b, cb, rfl, hcb⟩ := hb
  have HA := Lib.hid hca
  have HB := Lib.hid hcb
  have hne : ((labs.length : Int) != (labs.length : Int)) = false := by simp
  clear hca hcb
  go_enter Try.func69, Try.ntmps69
  go_wp2_with fail
  go_loopw [5] (fun i wr => ∃ k : Nat, k ≤ labs.length ∧ i = .int .i64 k ∧ Hid (Below w.heap.size w wr)) (fun i _ => labs.length - (intOf i).toNat)
  case atStart => exact ⟨0, Nat.zero_le _, rfl, Below.refl _ _⟩
  case round =>
    obtain ⟨k, hk, rfl, HBW⟩ := hrel
    by_cases hlt : k < labs.length
    · obtain ⟨g, off, rfl, hg, hcc⟩ := HA.out (by omega)
      obtain ⟨g2, off2, rfl, hg2, hcc2⟩ := HB.out (by omega)
      have c1 := cells_in ((HBW.out.cell (p := ⟨g, off + k * 2, none⟩) hg).trans (hcc k hlt).1)
      have c2 := cells_in ((HBW.out.cell (p := ⟨g, off + k * 2 + 1, none⟩) hg).trans (hcc k hlt).2)
      have c3 := cells_in ((HBW.out.cell (p := ⟨g2, off2 + k * 2, none⟩) hg2).trans (hcc2 k hlt).1)
      have c4 := cells_in ((HBW.out.cell (p := ⟨g2, off2 + k * 2 + 1, none⟩) hg2).trans (hcc2 k hlt).2)
      generalize labs[k].pre = xp at c1 c3
      generalize labs[k].grp = xg at c2 c4
      have hb1 := ba_eq xp xp
      have hb2 := ba_eq xg xg
      rw [decide_eq_true rfl] at hb1 hb2
      have hd : decide ((k : Int) < (labs.length : Int)) = true := decide_eq_true (by omega)
      have HBN : Hid (∀ pp : Regrown, Below w.heap.size w (grow (redrawn wr pp.d) pp.os)) := fun pp => HBW.out.trans ((below_in wr pp).mono HBW.out.size)
      clear hcc hcc2 HA HB
      go_wp2_with fail
      refine wp_region_quiet_below (by kernel_rfl) (by kernel_rfl) ?_
      repeat (go_big_quiet_step (fail))
      refine wpQuiet_nil ?_
      intro _ hw'
      obtain ⟨pp, hw''⟩ := hw'
      subst hw''
      go_wp2_with fail
      go_roundw
      case rel => exact ⟨k + 1, by omega, by go_num, HBN.out pp⟩
      case measure => simp [intOf]; omega
    · obtain rfl : k = labs.length := by omega
      go_wp2_with fail
      go_ret
      exact ⟨rfl, HBW.out⟩
set_option maxHeartbeats 8000000 in
theorem keptLabels_true (labs : List Lab) (u v : Value) (base : Nat) (w : World) (hu : LentLab w base u labs) (hv : RdLabs w v labs) (hl : labs.length ≤ 100000) :
    Calls Try.prog 68 #[u, v] w fun e w' => e = .returned (.bool true) ∧ Below w.heap.size w w' := by
  obtain ⟨g, rfl, _, hg, hgc⟩ := hu
  obtain ⟨b, cb, rfl, hcb⟩ := hv
  have HG := Lib.hid hgc
  have HB := Lib.hid hcb
  have hne : ((labs.length : Int) != (labs.length : Int)) = false := by simp
  clear hgc hcb
  go_enter Try.func68, Try.ntmps68
  go_wp2_with fail
  go_loopw [6] (fun i wr => ∃ k : Nat, k ≤ labs.length + 12 ∧ i = .int .i64 k ∧ Hid (Below w.heap.size w wr)) (fun i _ => labs.length + 12 - (intOf i).toNat)
  case atStart => exact ⟨0, Nat.zero_le _, rfl, Below.refl _ _⟩
  case round =>
    obtain ⟨k, hk, rfl, HBW⟩ := hrel
    by_cases hlt : k < labs.length + 12
    · have hkl : k < (labs ++ marksL 12).length := by rw [List.length_append, marksL_len]; exact hlt
      have c1 := cells_in ((HBW.out.cell (p := ⟨g, k * 2, none⟩) hg).trans (HG.out k hkl).1)
      have c2 := cells_in ((HBW.out.cell (p := ⟨g, k * 2 + 1, none⟩) hg).trans (HG.out k hkl).2)
      have hd : decide ((k : Int) < ((labs.length : Int) + 12)) = true := decide_eq_true (by omega)
      have HBN : Hid (∀ pp : Regrown, Below w.heap.size w (grow (redrawn wr pp.d) pp.os)) := fun pp => HBW.out.trans ((below_in wr pp).mono HBW.out.size)
      by_cases hkn : k < labs.length
      · obtain ⟨g2, off2, rfl, hg2, hcc2⟩ := HB.out (by omega)
        rw [List.getElem_append_left hkn] at c1 c2
        have c3 := cells_in ((HBW.out.cell (p := ⟨g2, off2 + k * 2, none⟩) hg2).trans (hcc2 k hkn).1)
        have c4 := cells_in ((HBW.out.cell (p := ⟨g2, off2 + k * 2 + 1, none⟩) hg2).trans (hcc2 k hkn).2)
        generalize labs[k].pre = xp at c1 c3
        generalize labs[k].grp = xg at c2 c4
        have hb1 := ba_eq xp xp
        have hb2 := ba_eq xg xg
        rw [decide_eq_true rfl] at hb1 hb2
        have hd1 : decide ((k : Int) < (labs.length : Int)) = true := decide_eq_true (by omega)
        have hd2 : decide ((labs.length : Int) ≤ (k : Int)) = false := decide_eq_false (by omega)
        have hd3 : decide (k < labs.length) = true := decide_eq_true hkn
        have hd4 : decide (labs.length ≤ k) = false := decide_eq_false (by omega)
        clear hcc2 HG HB
        go_wp2_with fail
        refine wp_region_quiet_below (by kernel_rfl) (by kernel_rfl) ?_
        repeat (go_big_quiet_step (fail))
        refine wpQuiet_nil ?_
        intro _ hw'
        obtain ⟨pp, hw''⟩ := hw'
        subst hw''
        go_wp2_with fail
        go_roundw
        case rel => exact ⟨k + 1, by omega, by go_num, HBN.out pp⟩
        case measure => simp [intOf]; omega
      · obtain ⟨j, hj⟩ : ∃ j, k - labs.length = j := ⟨_, rfl⟩
        have hml : ∀ h, (marksL 12)[k - labs.length]'h = markLab j := fun h => by subst hj; simp [marksL]
        rw [List.getElem_append_right (by omega), hml] at c1 c2
        have hj12 : j < 12 := by omega
        have CM : Hid (∀ W, Below wr.heap.size wr W → Calls Try.prog 83 #[.int .i64 1, .int .i64 (j : Nat)] W fun e w' => e = .returned (.agg #[.string ⟨#[]⟩, .string (markB j)]) ∧ Below W.heap.size W w') := fun W _ => markLabel_any j hj12 W
        unfold markLab at c1 c2
        dsimp only at c1 c2
        have hb1 := ba_eq (markB j) (markB j)
        rw [decide_eq_true rfl] at hb1
        generalize markB j = mk at c1 c2 CM hb1
        have hd1 : decide ((k : Int) < (labs.length : Int)) = false := decide_eq_false (by omega)
        have hd2 : decide ((labs.length : Int) ≤ (k : Int)) = true := decide_eq_true (by omega)
        have hd3 : decide (k < labs.length) = false := decide_eq_false hkn
        have hd4 : decide (labs.length ≤ k) = true := decide_eq_true (by omega)
        have hji : (k : Int) - (labs.length : Int) = (j : Int) := by omega
        have hjw : IntKind.i64.wrap ((k : Int) - (labs.length : Int)) = (j : Int) := by rw [IntWalk.i64_in _ (by omega)]; omega
        clear HG HB hml
        go_wp2_with fail
        refine wp_region_quiet_below (by kernel_rfl) (by kernel_rfl) ?_
        repeat (go_big_quiet_step ((with_reducible exact regrown_in CM.out _)))
        refine wpQuiet_nil ?_
        intro _ hw'
        obtain ⟨pp, hw''⟩ := hw'
        subst hw''
        clear hjw hji
        go_wp2_with fail
        go_roundw
        case rel => exact ⟨k + 1, by omega, by go_num, HBN.out pp⟩
        case measure => simp [intOf]; omega
    · obtain rfl : k = labs.length + 12 := by omega
      go_wp2_with fail
      go_ret
      exact ⟨rfl, HBW.out⟩
theorem boxes_at {w w1 : World} {l next : Lev} {v u : Value} {w2 : World} (hw2 : (w.alloc (boxO l v)).alloc (boxO next u) = w2) (hb : Below w2.heap.size w2 w1) : Boxes w.heap.size l next v u w1 := by
  have hz : w2.heap.size = w.heap.size + 2 := by rw [← hw2]; simp
  have := boxes_new w l next v u
  rw [hw2] at this
  exact this.below (by rw [← hz]; exact hb)
set_option maxHeartbeats 4000000 in
theorem sameLevel_true (l : Lev) (va vb : Value) (w : World) (ha : RdLabs w va l.labs) (hb : RdLabs w vb l.labs) (hl : l.labs.length ≤ 100000) :
    Calls Try.prog 56 #[lvA l va, lvA l vb] w fun e w' => e = .returned (.bool true) ∧ Below w.heap.size w w' := by
  have HS : Hid (∀ W, Below w.heap.size w W → Calls Try.prog 69 #[va, vb] W fun e w' => e = .returned (.bool true) ∧ Below W.heap.size W w') := fun W hW => sameLabels_true l.labs va vb W (ha.below hW) (hb.below hW) hl
  obtain ⟨w2, hw2⟩ : ∃ w2 : World, (w.alloc (boxO l va)).alloc (boxO l vb) = w2 := ⟨_, rfl⟩
  have HB2 : Hid (Below w.heap.size w w2) := by rw [← hw2]; exact ((Below.refl _ w).alloc (Nat.le_refl _) _).alloc (by simp) _
  have HBX : Hid (∀ w1, Below w2.heap.size w2 w1 → Boxes w.heap.size l l va vb w1) := fun w1 h => boxes_at hw2 h
  have hbx := HBX.out w2 (Below.refl _ _)
  have a0 := hbx.l0
  have a1 := hbx.l1
  have a2 := hbx.l2
  have b0 := hbx.n0
  have b1 := hbx.n1
  have b2 := hbx.n2
  obtain ⟨sa, ca, rfl, _⟩ := ha
  obtain ⟨sb, cb, rfl, _⟩ := hb
  have hbe := ba_eq l.name l.name
  rw [decide_eq_true rfl] at hbe
  unfold boxO at hw2
  unfold lvA
  clear hbx
  go_enter Try.func56, Try.ntmps56
  go_wp2_with fail
  refine (HS.out _ HB2.out).mono ?_
  rintro e w3 ⟨rfl, hb3⟩
  have hby := HBX.out w3 hb3
  have a3 := hby.l3
  have a4 := hby.l4
  have b3 := hby.n3
  have b4 := hby.n4
  have HB3 := Lib.hid (HB2.out.trans (hb3.mono HB2.out.size))
  clear hby hb3
  go_wp2_with fail
  go_ret
  exact ⟨rfl, HB3.out⟩
set_option maxHeartbeats 4000000 in
theorem keptLevel_true (l : Lev) (u v : Value) (base : Nat) (w : World) (hu : LentLab w base u l.labs) (hv : RdLabs w v l.labs) (hl : l.labs.length ≤ 100000) :
    Calls Try.prog 55 #[lvA l u, lvA l v] w fun e w' => e = .returned (.bool true) ∧ Below w.heap.size w w' := by
  have HS : Hid (∀ W, Below w.heap.size w W → Calls Try.prog 56 #[lvA l u, lvA l v] W fun e w' => e = .returned (.bool true) ∧ Below W.heap.size W w') := fun W hW => sameLevel_true l u v W (hu.reads.below hW) (hv.below hW) hl
  have HK : Hid (∀ W, Below w.heap.size w W → Calls Try.prog 68 #[u, v] W fun e w' => e = .returned (.bool true) ∧ Below W.heap.size W w') := fun W hW => by
    obtain ⟨g, hg, h1, h2, h3⟩ := hu
    exact keptLabels_true l.labs u v base W ⟨g, hg, h1, Nat.lt_of_lt_of_le h2 hW.size, fun i hi => ⟨(hW.cell (p := ⟨g, i * 2, none⟩) h2).trans (h3 i hi).1, (hW.cell (p := ⟨g, i * 2 + 1, none⟩) h2).trans (h3 i hi).2⟩⟩ (hv.below hW) hl
  obtain ⟨w2, hw2⟩ : ∃ w2 : World, (w.alloc (boxO l u)).alloc (boxO l v) = w2 := ⟨_, rfl⟩
  have HB2 : Hid (Below w.heap.size w w2) := by rw [← hw2]; exact ((Below.refl _ w).alloc (Nat.le_refl _) _).alloc (by simp) _
  have HBX : Hid (∀ w1, Below w2.heap.size w2 w1 → Boxes w.heap.size l l u v w1) := fun w1 h => boxes_at hw2 h
  have hbx := HBX.out w2 (Below.refl _ _)
  obtain ⟨a0, a1, a2, a3, a4, b0, b1, b2, b3, b4⟩ := hbx
  obtain ⟨gu, rfl, _⟩ := hu
  obtain ⟨sb, cb, rfl, _⟩ := hv
  unfold boxO at hw2
  unfold lvA at HS ⊢
  go_enter Try.func55, Try.ntmps55
  go_wp2_with fail
  refine (HS.out _ HB2.out).mono ?_
  rintro e w3 ⟨rfl, hb3⟩
  have hby := HBX.out w3 hb3
  have c2 := hby.l2
  have d2 := hby.n2
  have HB3 := Lib.hid (HB2.out.trans (hb3.mono HB2.out.size))
  clear hby hb3 a0 a1 a2 a3 a4 b0 b1 b2 b3 b4
  go_wp2_with fail
  refine (HK.out _ HB3.out).mono ?_
  rintro e w4 ⟨rfl, hb4⟩
  have HB4 := Lib.hid (HB3.out.trans (hb4.mono HB3.out.size))
  clear hb4
  go_wp2_with fail
  go_ret
  exact ⟨rfl, HB4.out⟩
set_option maxHeartbeats 8000000 in
theorem keptLevels_true (ls : List Lev) (u v : Value) (base : Nat) (w : World) (hu : LentLevs w base u ls) (hv : RdLevs w v ls) (hf : ∀ l ∈ ls, l.labs.length ≤ 100000) (hl : ls.length ≤ 1000) :
    Calls Try.prog 40 #[u, v] w fun e w' => e = .returned (.bool true) ∧ Below w.heap.size w w' := by
  obtain ⟨g, rfl, _, hg, hgc, hgm⟩ := hu
  obtain ⟨b, cb, rfl, hcb⟩ := hv
  have HG := Lib.hid hgc
  have HM := Lib.hid hgm
  have HB := Lib.hid hcb
  have HF := Lib.hid hf
  have hne : ((ls.length : Int) != (ls.length : Int)) = false := by simp
  clear hgc hcb hgm hf
  go_enter Try.func40, Try.ntmps40
  go_wp2_with fail
  go_loopw [6] (fun i wr => ∃ k : Nat, k ≤ ls.length + 12 ∧ i = .int .i64 k ∧ Hid (Below w.heap.size w wr)) (fun i _ => ls.length + 12 - (intOf i).toNat)
  case atStart => exact ⟨0, Nat.zero_le _, rfl, Below.refl _ _⟩
  case round =>
    obtain ⟨k, hk, rfl, HBW⟩ := hrel
    by_cases hlt : k < ls.length + 12
    · have hd : decide ((k : Int) < ((ls.length : Int) + 12)) = true := decide_eq_true (by omega)
      have HBN : Hid (∀ pp : Regrown, Below w.heap.size w (grow (redrawn wr pp.d) pp.os)) := fun pp => HBW.out.trans ((below_in wr pp).mono HBW.out.size)
      by_cases hkn : k < ls.length
      · obtain ⟨g2, off2, rfl, hg2, hcc2⟩ := HB.out (by omega)
        obtain ⟨su, hsu, hau⟩ := HG.out k hkn
        obtain ⟨sv, hsv, hav⟩ := hcc2 k hkn
        obtain ⟨c0, c1, c2, c3, c4⟩ := hau.below HBW.out hg
        obtain ⟨e0, e1, e2, e3, e4⟩ := hav.below HBW.out hg2
        have CK : Hid (∀ W, Below wr.heap.size wr W → Calls Try.prog 55 #[lvA ls[k] su, lvA ls[k] sv] W fun e w' => e = .returned (.bool true) ∧ Below W.heap.size W w') := fun W hW => by
          have hw : Below w.heap.size w W := HBW.out.trans (hW.mono HBW.out.size)
          exact keptLevel_true ls[k] su sv base W (hsu.below hw) (hsv.below hw) (HF.out _ (List.getElem_mem hkn))
        have c0 := cells_in c0
        have c1 := cells_in c1
        have c2 := cells_in c2
        have c3 := cells_in c3
        have c4 := cells_in c4
        have e0 := cells_in e0
        have e1 := cells_in e1
        have e2 := cells_in e2
        have e3 := cells_in e3
        have e4 := cells_in e4
        unfold lvA at CK
        generalize ls[k] = l at c0 c1 c2 c3 c4 e0 e1 e2 e3 e4 CK
        have hd1 : decide ((k : Int) < (ls.length : Int)) = true := decide_eq_true (by omega)
        have hd2 : decide ((ls.length : Int) ≤ (k : Int)) = false := decide_eq_false (by omega)
        have hd3 : decide (k < ls.length) = true := decide_eq_true hkn
        have hd4 : decide (ls.length ≤ k) = false := decide_eq_false (by omega)
        clear hcc2 HG HB HM HF hsu hau hsv hav
        go_wp2_with fail
        refine wp_region_quiet_below (by kernel_rfl) (by kernel_rfl) ?_
        repeat (go_big_quiet_step ((with_reducible exact regrown_in CK.out _)))
        refine wpQuiet_nil ?_
        intro _ hw'
        obtain ⟨pp, hw''⟩ := hw'
        subst hw''
        go_wp2_with fail
        go_roundw
        case rel => exact ⟨k + 1, by omega, by go_num, HBN.out pp⟩
        case measure => simp [intOf]; omega
      · obtain ⟨j, hj⟩ : ∃ j, k - ls.length = j := ⟨_, rfl⟩
        have hj12 : j < 12 := by omega
        have hkj : ls.length + j = k := by omega
        have hlm := HM.out j hj12
        rw [hkj] at hlm
        obtain ⟨c0, c1, c2, c3, c4⟩ := hlm.below HBW.out hg
        have c0 := cells_in c0
        have c1 := cells_in c1
        have c2 := cells_in c2
        have c3 := cells_in c3
        have c4 := cells_in c4
        have CM : Hid (∀ W, Below wr.heap.size wr W → Calls Try.prog 50 #[.int .i64 1, .int .i64 (j : Nat)] W fun e w' => e = .returned (markLvV j) ∧ Below W.heap.size W w') := fun W _ => markLevel_any j hj12 W
        have CS : Hid (∀ W, Below wr.heap.size wr W → Calls Try.prog 56 #[lvA (markLv j) (.slice none 0 0), lvA (markLv j) (.slice none 0 0)] W fun e w' => e = .returned (.bool true) ∧ Below W.heap.size W w') := fun W hW => sameLevel_true (markLv j) _ _ W (rd_nil W) (rd_nil W) (Nat.zero_le _)
        unfold lvA markLv at CS
        unfold markLvV at CM
        unfold markLv at c0 c1 c2 c3 c4
        dsimp only at c0 c1 c2 c3 c4 CS
        have hd1 : decide ((k : Int) < (ls.length : Int)) = false := decide_eq_false (by omega)
        have hd2 : decide ((ls.length : Int) ≤ (k : Int)) = true := decide_eq_true (by omega)
        have hd3 : decide (k < ls.length) = false := decide_eq_false hkn
        have hd4 : decide (ls.length ≤ k) = true := decide_eq_true (by omega)
        have hji : (k : Int) - (ls.length : Int) = (j : Int) := by omega
        have hjw : IntKind.i64.wrap ((k : Int) - (ls.length : Int)) = (j : Int) := by rw [IntWalk.i64_in _ (by omega)]; omega
        generalize 8000024 + (j : Int) = mk at c0 c1 c2 c3 c4 CM CS
        clear HG HB HM HF hlm
        go_wp2_with fail
        refine wp_region_quiet_below (by kernel_rfl) (by kernel_rfl) ?_
        repeat (go_big_quiet_step ((first | (with_reducible exact regrown_in CM.out _) | (with_reducible exact regrown_in CS.out _))))
        refine wpQuiet_nil ?_
        intro _ hw'
        obtain ⟨pp, hw''⟩ := hw'
        subst hw''
        clear hjw hji
        go_wp2_with fail
        go_roundw
        case rel => exact ⟨k + 1, by omega, by go_num, HBN.out pp⟩
        case measure => simp [intOf]; omega
    · obtain rfl : k = ls.length + 12 := by omega
      go_wp2_with fail
      go_ret
      exact ⟨rfl, HBW.out⟩
end Go.Proofs.Ytdahgfopighhlaa
