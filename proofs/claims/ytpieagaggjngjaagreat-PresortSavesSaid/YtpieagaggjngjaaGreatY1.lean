/-
  The kit's LentInts and KeptInts (at what is the same).
-/
import Derived.Test.YtpieagaggjngjaaGreatGU
import Derived.Test.YtpieagaggjngjaaGreatGE
import Derived.OwnWalk
namespace Go.Proofs.YtpieagaggjngjaaGreat
open Go.RowKit Go.Sort
set_option linter.unusedVariables false
set_option maxRecDepth 100000
def marksI (k : Nat) : List Int := (List.range k).map (fun j : Nat => 8000024 + (j : Int))
theorem marksI_succ (k : Nat) : marksI (k + 1) = marksI k ++ [8000024 + (k : Int)] := by unfold marksI; rw [List.range_succ]; simp
theorem marksI_len (k : Nat) : (marksI k).length = k := by unfold marksI; simp
/-- A lent slice of numbers: the numbers, and twelve marks behind them. -/
def LentInt (W : World) (base : Nat) (v : Value) (zs : List Int) : Prop :=
  ∃ g, v = .slice (some ⟨g, 0, none⟩) zs.length (zs.length + 12) ∧ base ≤ g ∧ g < W.heap.size ∧ ∀ i (h : i < (zs ++ marksI 12).length), W.cell? ⟨g, i, none⟩ = some (.int .i64 (zs ++ marksI 12)[i])
theorem LentInt.below {W W' : World} {base : Nat} {v : Value} {zs : List Int} (h : LentInt W base v zs) (hb : Below W.heap.size W W') : LentInt W' base v zs := by
  obtain ⟨g, rfl, h1, h2, h3⟩ := h
  exact ⟨g, rfl, h1, Nat.lt_of_lt_of_le h2 hb.size, fun i hi => (hb.cell (p := ⟨g, i, none⟩) h2).trans (h3 i hi)⟩
theorem LentInt.reads {W : World} {base : Nat} {v : Value} {zs : List Int} (h : LentInt W base v zs) : RdInts W v zs := by
  obtain ⟨g, rfl, h1, h2, h3⟩ := h
  refine ⟨_, _, rfl, fun h0 => ⟨g, 0, rfl, h2, fun i hi => ?_⟩⟩
  have := h3 i (by rw [List.length_append]; omega)
  rw [List.getElem_append_left hi] at this
  rw [Nat.zero_add]
  exact this
theorem int_cells {w w1 : World} {a : Option Addr} {zs : List Int} (hc : 0 < zs.length → ∃ g off, a = some ⟨g, off, none⟩ ∧ g < w.heap.size ∧ ∀ i (h : i < zs.length), w.cell? ⟨g, off + i, none⟩ = some (.int .i64 zs[i])) (hB : Below w.heap.size w w1) :
    ∀ ad, a = some ad → ∀ j u, (zs.map (Value.int .i64))[j]? = some u → w1.cell? (ad.add j) = some u := by
  intro ad had j u hu
  obtain ⟨hjl, hju⟩ := List.getElem?_eq_some_iff.1 hu
  rw [List.length_map] at hjl
  obtain ⟨g, off, e, hg, hcc⟩ := hc (by omega)
  rw [e] at had
  obtain rfl := Option.some.inj had
  have ea : (⟨g, off, none⟩ : Addr).add j = ⟨g, off + j, none⟩ := by unfold Addr.add; split <;> simp_all
  rw [ea, ← hju, List.getElem_map]
  exact (hB.cell (p := ⟨g, off + j, none⟩) hg).trans (hcc j hjl)
theorem int_one (zs : List Int) : ∀ u ∈ zs.map (Value.int .i64), u.oneCell' = true := fun u hu => by
  obtain ⟨z, _, rfl⟩ := List.mem_map.1 hu
  rfl
set_option maxHeartbeats 8000000 in
theorem lentInts_any (zs : List Int) (v : Value) (w : World) (hr : RdInts w v zs) (hnil : NilOk v) (hl : zs.length ≤ 100000) :
    Calls Tryz.prog 15 #[v] w fun e w' => ∃ u, e = .returned u ∧ LentInt w' w.heap.size u zs ∧ Below w.heap.size w w' := by
  obtain ⟨a, cap, rfl, hc⟩ := hr
  obtain ⟨i0, hi⟩ := info_parts Tryz.infoI
  have HI := Lib.hid hi
  have HC := Lib.hid hc
  have HNIL := Lib.hid hnil
  have HL : Hid ((zs.map (Value.int .i64)).length = zs.length * 1) := by
    show (zs.map (Value.int .i64)).length = zs.length * 1
    rw [List.length_map, Nat.mul_one]
  clear hi hc hnil
  go_enter Tryz.func15, Tryz.ntmps15
  go_wp2_with (first
    | (at_make; refine wpList_make_own _ rfl _ _ 23 rfl w.heap.size 3 i0 (.int .i64 0) 1 Tryz.underlying23 HI.out.1 HI.out.2.1 HI.out.2.2.1 _ _ _ (zs.length + 12) rfl (by first | rfl | simp) rfl (by rw [HI.out.2.2.2]; omega) (by unfold maxLen; omega) (Nat.le_refl _) ?_; intro w1 hown hgrow; have hB : Below w.heap.size w w1 := (Below.refl _ w).grown hgrow (Nat.le_refl _) (fun _ e => by cases e); clear hgrow)
    | (at_builtin; refine wpList_append_fits_any w1 rfl _ _ 23 rfl w.heap.size 3 i0 1 Tryz.underlying23 HI.out.1 HI.out.2.2.1 w.heap.size 0 (zs.length + 12) [] rfl hown a zs.length cap (zs.map (Value.int .i64)) rfl HL.out (fun e => HNIL.out _ _ (by rw [e])) (int_cells HC.out hB) (int_one zs) (by omega) ?_; intro w2 hown2 hgrow2; replace hB : Below w.heap.size w w2 := hB.grown hgrow2 hB.size (fun r e => by cases e; exact Nat.le_refl _); clear hown hgrow2))
  rw [Nat.zero_add, List.nil_append] at hown2
  go_loopw [3, 4] (fun x i wr => ∃ k : Nat, k ≤ 12 ∧ i = .int .i64 k ∧ x = .slice (some ⟨w.heap.size, 0, none⟩) (zs.length + k) (zs.length + 12) ∧ Below w.heap.size w wr ∧ wr.ownsRow w.heap.size 3 1 (.slice (some ⟨w.heap.size, 0, none⟩) (zs.length + k) (zs.length + 12)) (zs.length + k) ((zs ++ marksI k).map (Value.int .i64))) (fun _ i _ => 12 - (intOf i).toNat)
  case atStart => exact ⟨0, Nat.zero_le _, rfl, by simp, hB, by simpa [marksI] using hown2⟩
  case round =>
    clear hB hown2
    obtain ⟨k, hk, rfl, rfl, hB, hown⟩ := hrel
    by_cases hlt : k < 12
    · have HSU : Hid ((zs ++ marksI (k + 1)).map (Value.int .i64) = (zs ++ marksI k).map (Value.int .i64) ++ [.int .i64 (8000024 + (k : Int))]) := by
        show _ = _
        rw [marksI_succ, ← List.append_assoc, List.map_append]
        rfl
      have hmt := fun W => mark_any k hlt W
      generalize 8000024 + (k : Int) = mk at HSU hmt
      have HMT := Lib.hid hmt
      have HOWN := Lib.hid hown
      clear hmt hown
      go_wp2_with (first
        | (go_at_call 29; refine (HMT.out _).mono ?_; rintro e w3 ⟨rfl, hw3⟩; subst hw3)
        | (at_builtin; refine wpList_append_fits _ rfl _ _ 23 rfl w.heap.size 3 i0 1 Tryz.underlying23 HI.out.1 HI.out.2.2.1 w.heap.size (zs.length + k) (zs.length + 12) _ rfl (HOWN.out.alloc _) ⟨wr.heap.size, 0, none⟩ 1 1 [.int .i64 mk] rfl rfl (cells_new _ _ _) (by simp [Value.oneCell']) (by omega) ?_; intro w4 hown4 hgrow4))
      have hb4 : Below w.heap.size w w4 := (hB.alloc hB.size _).grown hgrow4 (by have := hB.size; simp; omega) (fun r e => by cases e; exact Nat.le_refl _)
      clear hgrow4
      go_roundw
      case rel => exact ⟨k + 1, by omega, by go_num, by rw [Nat.add_assoc], hb4, by rw [HSU.out, ← Nat.add_assoc]; exact hown4⟩
      case measure => simp [intOf]; omega
    · obtain rfl : k = 12 := by omega
      have hbw := (hown.lt w.heap.size rfl).2
      have HO := Lib.hid hown
      clear hown
      go_wp2_with fail
      go_ret
      refine ⟨_, rfl, ⟨w.heap.size, rfl, Nat.le_refl _, hbw, fun i h => ?_⟩, hB⟩
      have hm := marksI_len 12
      have h' : i < zs.length + 12 := by rw [List.length_append, hm] at h; exact h
      rw [HO.out.cellAt _ (by omega), List.getElem?_map, List.getElem?_eq_getElem h]; rfl
set_option maxHeartbeats 8000000 in
theorem keptInts_true (zs : List Int) (u v : Value) (base : Nat) (w : World) (hu : LentInt w base u zs) (hv : RdInts w v zs) (hl : zs.length ≤ 100000) :
    Calls Tryz.prog 18 #[u, v] w fun e w' => e = .returned (.bool true) ∧ Below w.heap.size w w' := by
  obtain ⟨g, rfl, _, hg, hgc⟩ := hu
  obtain ⟨b, cb, rfl, hcb⟩ := hv
  have HG := Lib.hid hgc
  have HB := Lib.hid hcb
  have hne : ((zs.length : Int) != (zs.length : Int)) = false := by simp
  clear hgc hcb
  go_enter Tryz.func18, Tryz.ntmps18
  go_wp2_with fail
  go_loopw [6] (fun i wr => ∃ k : Nat, k ≤ zs.length + 12 ∧ i = .int .i64 k ∧ Hid (Below w.heap.size w wr)) (fun i _ => zs.length + 12 - (intOf i).toNat)
  case atStart => exact ⟨0, Nat.zero_le _, rfl, Below.refl _ _⟩
  case round =>
    obtain ⟨k, hk, rfl, HBW⟩ := hrel
    by_cases hlt : k < zs.length + 12
    · have hkl : k < (zs ++ marksI 12).length := by rw [List.length_append, marksI_len]; exact hlt
      have c1 := cells_in ((HBW.out.cell (p := ⟨g, k, none⟩) hg).trans (HG.out k hkl))
      have hd : decide ((k : Int) < ((zs.length : Int) + 12)) = true := decide_eq_true (by omega)
      have HBN : Hid (∀ pp : Regrown, Below w.heap.size w (grow (redrawn wr pp.d) pp.os)) := fun pp => HBW.out.trans ((below_in wr pp).mono HBW.out.size)
      by_cases hkn : k < zs.length
      · obtain ⟨g2, off2, rfl, hg2, hcc2⟩ := HB.out (by omega)
        rw [List.getElem_append_left hkn] at c1
        have c3 := cells_in ((HBW.out.cell (p := ⟨g2, off2 + k, none⟩) hg2).trans (hcc2 k hkn))
        generalize zs[k] = xp at c1 c3
        have hb1 : (xp == xp) = true := by simp
        have hd1 : decide ((k : Int) < (zs.length : Int)) = true := decide_eq_true (by omega)
        have hd2 : decide ((zs.length : Int) ≤ (k : Int)) = false := decide_eq_false (by omega)
        have hd3 : decide (k < zs.length) = true := decide_eq_true hkn
        have hd4 : decide (zs.length ≤ k) = false := decide_eq_false (by omega)
        clear hcc2 HG HB
        go_wp2_with fail
        refine wp_region_quiet_below (by kernel_rfl) (by kernel_rfl) ?_
        repeat (go_big_quiet_step (fail))
        refine wpQuiet_nil ?_
        intro _ hw'
        obtain ⟨pp, hw''⟩ := hw'
        subst hw''
        go_wp2_with fail
        go_roundw
        case rel => exact ⟨k + 1, by omega, by go_num, HBN.out pp⟩
        case measure => simp [intOf]; omega
      · obtain ⟨j, hj⟩ : ∃ j, k - zs.length = j := ⟨_, rfl⟩
        have hml : ∀ h, (marksI 12)[k - zs.length]'h = 8000024 + (j : Int) := fun h => by subst hj; simp [marksI]
        rw [List.getElem_append_right (by omega), hml] at c1
        have hj12 : j < 12 := by omega
        have CM : Hid (∀ W, Below wr.heap.size wr W → Calls Tryz.prog 29 #[.int .i64 1, .int .i64 (j : Nat)] W fun e w' => e = .returned (.int .i64 (8000024 + (j : Int))) ∧ Below W.heap.size W w') := fun W _ => (mark_any j hj12 W).mono (by rintro e w' ⟨h1, rfl⟩; exact ⟨h1, Below.refl _ _⟩)
        generalize 8000024 + (j : Int) = mk at c1 CM
        have hb1 : (mk == mk) = true := by simp
        have hd1 : decide ((k : Int) < (zs.length : Int)) = false := decide_eq_false (by omega)
        have hd2 : decide ((zs.length : Int) ≤ (k : Int)) = true := decide_eq_true (by omega)
        have hd3 : decide (k < zs.length) = false := decide_eq_false hkn
        have hd4 : decide (zs.length ≤ k) = true := decide_eq_true (by omega)
        have hji : (k : Int) - (zs.length : Int) = (j : Int) := by omega
        have hjw : IntKind.i64.wrap ((k : Int) - (zs.length : Int)) = (j : Int) := by rw [IntWalk.i64_in _ (by omega)]; omega
        clear HG HB hml
        go_wp2_with fail
        refine wp_region_quiet_below (by kernel_rfl) (by kernel_rfl) ?_
        repeat (go_big_quiet_step ((with_reducible exact regrown_in CM.out _)))
        refine wpQuiet_nil ?_
        intro _ hw'
        obtain ⟨pp, hw''⟩ := hw'
        subst hw''
        clear hjw hji
        go_wp2_with fail
        go_roundw
        case rel => exact ⟨k + 1, by omega, by go_num, HBN.out pp⟩
        case measure => simp [intOf]; omega
    · obtain rfl : k = zs.length + 12 := by omega
      go_wp2_with fail
      go_ret
      exact ⟨rfl, HBW.out⟩
end Go.Proofs.YtpieagaggjngjaaGreat
