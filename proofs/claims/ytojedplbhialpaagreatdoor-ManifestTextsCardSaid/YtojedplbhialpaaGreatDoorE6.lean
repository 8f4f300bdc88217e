/-
  The kit's LentManifest, KeptLines, KeptManifest.
-/
import Derived.Test.YtojedplbhialpaaGreatDoorE2
import Derived.Test.YtojedplbhialpaaGreatDoorE4
namespace Go.Proofs.YtojedplbhialpaaGreatDoor
open Go.RowKit Go.Sort
set_option linter.unusedVariables false
set_option maxRecDepth 100000
abbrev manBox (X : Man) (v : Value) : Obj := .cells #[v, .int .i64 X.total.level, .int .i64 X.total.pieces, .int .i64 X.total.barred, .int .i64 X.total.grams, .int .i64 X.total.base, .int .i64 X.total.bar, .int .i64 X.total.saved, .int .i64 X.total.cents, .int .i64 X.buns, .int .i64 X.tras, .int .i64 X.cons] 44
theorem set0of12 {w : World} {g : Nat} {a0 a1 a2 a3 a4 a5 a6 a7 a8 a9 a10 a11 u : Value} {t : TypeId} {fr : Nat × Nat} (h : w.heap[g]? = some (.cells #[a0, a1, a2, a3, a4, a5, a6, a7, a8, a9, a10, a11] t fr)) : (w.setCell ⟨g, 0, none⟩ u).heap[g]? = some (.cells #[u, a1, a2, a3, a4, a5, a6, a7, a8, a9, a10, a11] t fr) := by
  simp [World.setCell, Array.getElem?_modify, h]
set_option maxHeartbeats 8000000 in
theorem lentMan_any (X : Man) (v : Value) (w : World) (hx : RdLns w v X.lines) (hnil : NilOk v) (hl : X.lines.length ≤ 100000) :
    Calls Tryz.prog 32 #[manA X v] w fun e w' => ∃ u, e = .returned (manA X u) ∧ LentLn w' w.heap.size u X.lines ∧ Below w.heap.size w w' := by
  have HC := Lib.hid (fun W (hW : Below w.heap.size w W) => lentLines_any X.lines v W (hx.below hW) hnil hl)
  obtain ⟨a, cap, rfl, _⟩ := hx
  obtain ⟨W2, hW2⟩ : ∃ W2, W2 = (w.alloc (manBox X (.slice a X.lines.length cap))).alloc manO := ⟨_, rfl⟩
  obtain ⟨t1, t2, t3, t4⟩ := two_new hW2
  have x0 := cell_of_row _ _ 0 _ _ _ t1
  have HW2 := Lib.hid hW2
  have HT1 := Lib.hid t1
  have HT2 := Lib.hid t2
  have HT4 := Lib.hid t4
  unfold manBox manO at HW2
  clear hW2 t1 t2 t4 hnil hl
  unfold manA
  go_enter Tryz.func32, Tryz.ntmps32
  go_wp2_with fail
  rw [← HW2.out]
  refine (HC.out _ HT4.out).mono ?_
  rintro e w1 ⟨u, rfl, hu, hb1⟩
  have hz1 := hb1.size
  have k1 := blk_keep hb1 HT1.out
  have k2 := blk_keep hb1 HT2.out
  have HB1 := Lib.hid (below_c HT4.out HT4.out.size hb1)
  have HU := Lib.hid hu
  obtain ⟨g, rfl, hg0, _⟩ := hu
  have k1' := set0of12 (u := .slice (some ⟨g, 0, none⟩) X.lines.length (X.lines.length + 12)) k1
  have k2' : (w1.setCell ⟨w.heap.size, 0, none⟩ (.slice (some ⟨g, 0, none⟩) X.lines.length (X.lines.length + 12))).heap[w.heap.size + 1]? = _ := (Below.heap_setCell w1 ⟨w.heap.size, 0, none⟩ (.slice (some ⟨g, 0, none⟩) X.lines.length (X.lines.length + 12)) (w.heap.size + 1) (by show w.heap.size + 1 ≠ w.heap.size; omega)).trans k2
  have c0 := cell_of_row _ _ 0 _ _ _ k1
  have f0 := not_frozen (j := 0) k1
  have q0 := cell_of_row _ _ 0 _ _ _ k1'
  have q1 := cell_of_row _ _ 1 _ _ _ k1'
  have q2 := cell_of_row _ _ 2 _ _ _ k1'
  have q3 := cell_of_row _ _ 3 _ _ _ k1'
  have q4 := cell_of_row _ _ 4 _ _ _ k1'
  have q5 := cell_of_row _ _ 5 _ _ _ k1'
  have q6 := cell_of_row _ _ 6 _ _ _ k1'
  have q7 := cell_of_row _ _ 7 _ _ _ k1'
  have q8 := cell_of_row _ _ 8 _ _ _ k1'
  have q9 := cell_of_row _ _ 9 _ _ _ k1'
  have q10 := cell_of_row _ _ 10 _ _ _ k1'
  have q11 := cell_of_row _ _ 11 _ _ _ k1'
  have z0 := cell_of_row _ _ 0 _ _ _ k2'
  have z1 := cell_of_row _ _ 1 _ _ _ k2'
  have z2 := cell_of_row _ _ 2 _ _ _ k2'
  have z3 := cell_of_row _ _ 3 _ _ _ k2'
  have z4 := cell_of_row _ _ 4 _ _ _ k2'
  have z5 := cell_of_row _ _ 5 _ _ _ k2'
  have z6 := cell_of_row _ _ 6 _ _ _ k2'
  have z7 := cell_of_row _ _ 7 _ _ _ k2'
  have z8 := cell_of_row _ _ 8 _ _ _ k2'
  have z9 := cell_of_row _ _ 9 _ _ _ k2'
  have z10 := cell_of_row _ _ 10 _ _ _ k2'
  have z11 := cell_of_row _ _ 11 _ _ _ k2'
  have y0 := not_frozen (j := 0) k2'
  have y1 := not_frozen (j := 1) k2'
  have y2 := not_frozen (j := 2) k2'
  have y3 := not_frozen (j := 3) k2'
  have y4 := not_frozen (j := 4) k2'
  have y5 := not_frozen (j := 5) k2'
  have y6 := not_frozen (j := 6) k2'
  have y7 := not_frozen (j := 7) k2'
  have y8 := not_frozen (j := 8) k2'
  have y9 := not_frozen (j := 9) k2'
  have y10 := not_frozen (j := 10) k2'
  have y11 := not_frozen (j := 11) k2'
  have HK2 := Lib.hid k2'
  clear k1 k2 k1' k2' hb1 x0
  go_wp2_with fail
  refine bodyPost_ret (results_cell_row rfl _ _ (w.heap.size + 1) 44 _ (0, 0) _ rfl (set12 HK2.out) Tryz.underlying44 rfl (by kernel_rfl)) rfl ?_
  refine ⟨.slice (some ⟨g, 0, none⟩) X.lines.length (X.lines.length + 12), rfl, ?_, ?_⟩
  · exact ((HU.out.grown (gb_setCell w1 ⟨w.heap.size, 0, none⟩ _) (by show w.heap.size < _; omega)).grown (set12_gb _ _ _ _ _ _ _ _ _ _ _ _ _ _) (by omega)).mono (by omega)
  · exact set12_below (HB1.out.setCell (p := ⟨w.heap.size, 0, none⟩) (Nat.le_refl _) _) (by omega)
set_option maxHeartbeats 8000000 in
theorem keptLines_true (l : List Ln) (u v : Value) (base : Nat) (w : World) (hu : LentLn w base u l) (hv : RdLns w v l) (hl : l.length ≤ 100000) :
    Calls Tryz.prog 82 #[u, v] w fun e w' => e = .returned (.bool true) ∧ Below w.heap.size w w' := by
  obtain ⟨g, rfl, _, hg, hgc⟩ := hu
  obtain ⟨b, cb, rfl, hcb⟩ := hv
  have HG := Lib.hid hgc
  have HB := Lib.hid hcb
  have hne : ((l.length : Int) != (l.length : Int)) = false := by simp
  clear hgc hcb
  go_enter Tryz.func82, Tryz.ntmps82
  go_wp2_with fail
  go_loopw [6] (fun i wr => ∃ k : Nat, k ≤ l.length + 12 ∧ i = .int .i64 k ∧ Hid (Below w.heap.size w wr)) (fun i _ => l.length + 12 - (intOf i).toNat)
  case atStart => exact ⟨0, Nat.zero_le _, rfl, Below.refl _ _⟩
  case round =>
    obtain ⟨k, hk, rfl, HBW⟩ := hrel
    by_cases hlt : k < l.length + 12
    · have hkl : k < (l ++ marksN 12).length := by rw [List.length_append, marksN_len]; exact hlt
      have hgk := fun j u (hu : (lnC (l ++ marksN 12)[k])[j]? = some u) => cells_in ((HBW.out.cell (p := ⟨g, k * 8 + j, none⟩) hg).trans (HG.out k hkl j u hu))
      have hd : decide ((k : Int) < ((l.length : Int) + 12)) = true := decide_eq_true (by omega)
      have HBN : Hid (∀ pp : Regrown, Below w.heap.size w (grow (redrawn wr pp.d) pp.os)) := fun pp => HBW.out.trans ((below_in wr pp).mono HBW.out.size)
      by_cases hkn : k < l.length
      · obtain ⟨g2, off2, rfl, hg2, hcc2⟩ := HB.out (by omega)
        rw [List.getElem_append_left hkn] at hgk
        have hck := fun j u (hu : (lnC l[k])[j]? = some u) => cells_in ((HBW.out.cell (p := ⟨g2, off2 + k * 8 + j, none⟩) hg2).trans (hcc2 k hkn j u hu))
        generalize l[k] = x at hgk hck
        have c0 := hgk 0 _ rfl
        have c1 := hgk 1 _ rfl
        have c2 := hgk 2 _ rfl
        have c3 := hgk 3 _ rfl
        have c4 := hgk 4 _ rfl
        have c5 := hgk 5 _ rfl
        have c6 := hgk 6 _ rfl
        have c7 := hgk 7 _ rfl
        have e0 := hck 0 _ rfl
        have e1 := hck 1 _ rfl
        have e2 := hck 2 _ rfl
        have e3 := hck 3 _ rfl
        have e4 := hck 4 _ rfl
        have e5 := hck 5 _ rfl
        have e6 := hck 6 _ rfl
        have e7 := hck 7 _ rfl
        simp only [Nat.add_zero] at c0 e0
        have hq := eql_line x x
        rw [decide_eq_true rfl] at hq
        unfold lnA at hq
        have hd1 : decide ((k : Int) < (l.length : Int)) = true := decide_eq_true (by omega)
        have hd2 : decide ((l.length : Int) ≤ (k : Int)) = false := decide_eq_false (by omega)
        have hd3 : decide (k < l.length) = true := decide_eq_true hkn
        have hd4 : decide (l.length ≤ k) = false := decide_eq_false (by omega)
        clear hcc2 HG HB hgk hck
        go_wp2_with fail
        refine wp_region_quiet_below (by kernel_rfl) (by kernel_rfl) ?_
        repeat (go_big_quiet_step (fail))
        refine wpQuiet_nil ?_
        intro _ hw'
        obtain ⟨pp, hw''⟩ := hw'
        subst hw''
        go_wp2_with fail
        go_roundw
        case rel => exact ⟨k + 1, by omega, by go_num, HBN.out pp⟩
        case measure => simp [intOf]; omega
      · obtain ⟨j, hj⟩ : ∃ j, k - l.length = j := ⟨_, rfl⟩
        have hml : ∀ h, (marksN 12)[k - l.length]'h = markLn j := fun h => by subst hj; simp [marksN]
        rw [List.getElem_append_right (by omega), hml] at hgk
        have hj12 : j < 12 := by omega
        have CM : Hid (∀ W, Below wr.heap.size wr W → Calls Tryz.prog 132 #[.int .i64 1, .int .i64 (j : Nat)] W fun e w' => e = .returned (lnA (markLn j)) ∧ Below W.heap.size W w') := fun W _ => markLine_any j hj12 W
        have c0 := hgk 0 _ rfl
        have c1 := hgk 1 _ rfl
        have c2 := hgk 2 _ rfl
        have c3 := hgk 3 _ rfl
        have c4 := hgk 4 _ rfl
        have c5 := hgk 5 _ rfl
        have c6 := hgk 6 _ rfl
        have c7 := hgk 7 _ rfl
        simp only [Nat.add_zero] at c0
        have hq := eql_line (markLn j) (markLn j)
        rw [decide_eq_true rfl] at hq
        unfold lnA at hq CM
        unfold markLn at c0 c1 c2 c3 c4 c5 c6 c7 hq CM
        dsimp only at c0 c1 c2 c3 c4 c5 c6 c7 hq CM
        generalize 8000024 + (j : Int) = mk at c7 hq CM
        have hd1 : decide ((k : Int) < (l.length : Int)) = false := decide_eq_false (by omega)
        have hd2 : decide ((l.length : Int) ≤ (k : Int)) = true := decide_eq_true (by omega)
        have hd3 : decide (k < l.length) = false := decide_eq_false hkn
        have hd4 : decide (l.length ≤ k) = true := decide_eq_true (by omega)
        have hji : (k : Int) - (l.length : Int) = (j : Int) := by omega
        have hjw : IntKind.i64.wrap ((k : Int) - (l.length : Int)) = (j : Int) := by rw [IntWalk.i64_in _ (by omega)]; omega
        clear HG HB hml hgk
        go_wp2_with fail
        refine wp_region_quiet_below (by kernel_rfl) (by kernel_rfl) ?_
        repeat (go_big_quiet_step ((with_reducible exact regrown_in CM.out _)))
        refine wpQuiet_nil ?_
        intro _ hw'
        obtain ⟨pp, hw''⟩ := hw'
        subst hw''
        clear hjw hji
        go_wp2_with fail
        go_roundw
        case rel => exact ⟨k + 1, by omega, by go_num, HBN.out pp⟩
        case measure => simp [intOf]; omega
    · obtain rfl : k = l.length + 12 := by omega
      go_wp2_with fail
      go_ret
      exact ⟨rfl, HBW.out⟩
set_option maxHeartbeats 8000000 in
theorem keptMan_true (X : Man) (u v : Value) (base : Nat) (w : World) (hu : LentLn w base u X.lines) (hv : RdLns w v X.lines) (hl : X.lines.length ≤ 100000) :
    Calls Tryz.prog 35 #[manA X u, manA X v] w fun e w' => e = .returned (.bool true) ∧ Below w.heap.size w w' := by
  have HS : Hid (∀ W, Below w.heap.size w W → Calls Tryz.prog 21 #[manA X u, manA X v] W fun e w' => e = .returned (.bool true) ∧ Below W.heap.size W w') := fun W hW => sameMan_same X u v W (hu.reads.below hW) (hv.below hW) hl
  have HK : Hid (∀ W, Below w.heap.size w W → Calls Tryz.prog 82 #[u, v] W fun e w' => e = .returned (.bool true) ∧ Below W.heap.size W w') := fun W hW => keptLines_true X.lines u v base W (hu.below hW) (hv.below hW) hl
  obtain ⟨g, rfl, _⟩ := hu
  obtain ⟨b, cb, rfl, _⟩ := hv
  obtain ⟨W2, hW2⟩ : ∃ W2, W2 = (w.alloc (manBox X (.slice (some ⟨g, 0, none⟩) X.lines.length (X.lines.length + 12)))).alloc (manBox X (.slice b X.lines.length cb)) := ⟨_, rfl⟩
  obtain ⟨t1, t2, t3, t4⟩ := two_new hW2
  have a0 := cell_of_row _ _ 0 _ _ _ t1
  have a1 := cell_of_row _ _ 1 _ _ _ t1
  have a2 := cell_of_row _ _ 2 _ _ _ t1
  have a3 := cell_of_row _ _ 3 _ _ _ t1
  have a4 := cell_of_row _ _ 4 _ _ _ t1
  have a5 := cell_of_row _ _ 5 _ _ _ t1
  have a6 := cell_of_row _ _ 6 _ _ _ t1
  have a7 := cell_of_row _ _ 7 _ _ _ t1
  have a8 := cell_of_row _ _ 8 _ _ _ t1
  have a9 := cell_of_row _ _ 9 _ _ _ t1
  have a10 := cell_of_row _ _ 10 _ _ _ t1
  have a11 := cell_of_row _ _ 11 _ _ _ t1
  have b0 := cell_of_row _ _ 0 _ _ _ t2
  have b1 := cell_of_row _ _ 1 _ _ _ t2
  have b2 := cell_of_row _ _ 2 _ _ _ t2
  have b3 := cell_of_row _ _ 3 _ _ _ t2
  have b4 := cell_of_row _ _ 4 _ _ _ t2
  have b5 := cell_of_row _ _ 5 _ _ _ t2
  have b6 := cell_of_row _ _ 6 _ _ _ t2
  have b7 := cell_of_row _ _ 7 _ _ _ t2
  have b8 := cell_of_row _ _ 8 _ _ _ t2
  have b9 := cell_of_row _ _ 9 _ _ _ t2
  have b10 := cell_of_row _ _ 10 _ _ _ t2
  have b11 := cell_of_row _ _ 11 _ _ _ t2
  have HW2 := Lib.hid hW2
  have HT1 := Lib.hid t1
  have HT2 := Lib.hid t2
  have HT4 := Lib.hid t4
  unfold manBox at HW2
  clear hW2 t1 t2 t4 hl
  unfold manA at HS ⊢
  rw [HW2.out] at a0 a1 a2 a3 a4 a5 a6 a7 a8 a9 a10 a11 b0 b1 b2 b3 b4 b5 b6 b7 b8 b9 b10 b11
  go_enter Tryz.func35, Tryz.ntmps35
  go_wp2_with fail
  rw [← HW2.out]
  refine (HS.out _ HT4.out).mono ?_
  rintro e w3 ⟨rfl, hb3⟩
  have k1 := blk_keep hb3 HT1.out
  have k2 := blk_keep hb3 HT2.out
  have c0 := cell_of_row _ _ 0 _ _ _ k1
  have d0 := cell_of_row _ _ 0 _ _ _ k2
  have HB3 := Lib.hid (below_c HT4.out HT4.out.size hb3)
  clear k1 k2 hb3 a0 a1 a2 a3 a4 a5 a6 a7 a8 a9 a10 a11 b0 b1 b2 b3 b4 b5 b6 b7 b8 b9 b10 b11
  go_wp2_with fail
  refine (HK.out _ HB3.out).mono ?_
  rintro e w4 ⟨rfl, hb4⟩
  have HB4 := Lib.hid (below_c HB3.out HB3.out.size hb4)
  clear hb4
  go_wp2_with fail
  go_ret
  exact ⟨rfl, HB4.out⟩
end Go.Proofs.YtojedplbhialpaaGreatDoor
