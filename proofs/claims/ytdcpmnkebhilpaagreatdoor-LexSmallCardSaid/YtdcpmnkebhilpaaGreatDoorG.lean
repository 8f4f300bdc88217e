/-
  Contract of lex.Classes: the walk.
-/
import Derived.Test.YtdcpmnkebhilpaaGreatDoorF
import Derived.Laws.EntriesVeiled
namespace Go.Proofs.YtdcpmnkebhilpaaGreatDoor
open Go.RowKit
set_option maxRecDepth 100000 in
set_option maxHeartbeats 1000000 in
theorem classes_any (s : ByteArray) (w : World) (hs : s.size ≤ maxLen) : Calls Tryz.prog 21 #[.string s] w fun e w' => e = .returned (.int .u16 (classesB s)) ∧ Below w.heap.size w w' := by
  go_enter Tryz.func21, Tryz.ntmps21
  go_wp2_with (first
    | (go_at_call 42; refine (kinds_any _ _).mono ?_; rintro e w1 ⟨rfl, hb⟩)
    | (go_at_call 43; refine (classes1_any _ _ _).mono ?_; rintro e w2 ⟨rfl, rfl⟩)
    | ((with_reducible refine wpList_buildV (o := ⟨some 34, _, _, _, _, _⟩) rfl 76 _ rfl (clsC w1.heap.size) ?_ (by as_aux_lemma => kernel_rfl)); intro cells hcells; have k1 := Lib.hid (hcells.out ▸ cls_size w1.heap.size); have k2 := Lib.hid (hcells.out ▸ cls_zero w1.heap.size); have k3 := Lib.hid (hcells.out ▸ clsC_one w1.heap.size))
    | ((with_reducible refine wpList_store_row (o := ⟨none, .store 76 _ _, _, _, _, _⟩) rfl _ _ _ rfl (w1.heap.size + 1 + 1 + 1 + 1 + 1) cells rfl rfl 76 zeroCls (by exact heap_new (by simp) _) k1.out k2.out k3.out ?_))
    | ((with_reducible refine wpList_load_row (o := ⟨_, .load 76 _, _, _, _, _⟩) rfl _ _ rfl (w1.heap.size + 1 + 1 + 1 + 1 + 1) rfl 76 cells (0, 0) _ (by exact setRow_heap _ _ _ _ _ _ (heap_new (by simp) _)) Tryz.underlying76 rfl k1.out ?_)))
  have hB0 : Below w.heap.size w w1 := hb
  have hsz := hb.size
  obtain ⟨W3, hW3⟩ : ∃ W3, W3 = ((((((w1.alloc (.cells #[.int .u8 (kindsB s.data.toList)] 5)).alloc (.cells #[.int .u8 1] 5)).alloc (.cells #[.int .u8 2] 5)).alloc (.cells #[.int .u8 3] 5)).alloc (.cells #[.int .u8 4] 5)).alloc (.cells zeroCls 76)).setRow (w1.heap.size + 1 + 1 + 1 + 1 + 1) cells := ⟨_, rfl⟩
  have hB3 : Below w.heap.size w W3 := by
    rw [hW3]
    exact below_setRow ((((((hb.alloc hsz _).alloc (by simp; omega) _).alloc (by simp; omega) _).alloc (by simp; omega) _).alloc (by simp; omega) _).alloc (by simp; omega) _) (by omega) _
  have hC3 : ClsW w1.heap.size (kindsB s.data.toList) W3 := by
    rw [hW3]; exact clsW_start _ _ _ _ _ _ _ _ _ _
  rw [← hW3]
  clear hW3 hb k1 k2 k3
  have hge : w.heap.size ≤ w1.heap.size := hsz
  clear hsz hB0
  generalize w1.heap.size = B at *
  go_loopw [6, 36] (fun t i wr => ∃ k : Nat, k ≤ 14 ∧ i = .int .i64 k ∧ t = .int .u16 (classesTo s k) ∧ Below w.heap.size w wr ∧ ClsW B (kindsB s.data.toList) wr) (fun _ i _ => 14 - (intOf i).toNat)
  case atStart => exact ⟨0, Nat.zero_le _, rfl, rfl, hB3, hC3⟩
  case round =>
    clear hB3 hC3
    obtain ⟨k, hk, rfl, rfl, hbr, hcr⟩ := hrel
    by_cases hlt : k < 14
    · obtain ⟨g, caps, hidx, hcall, hcon⟩ := has_at s hs B k hlt
      rw [hcells.out] at hidx
      have hstep : classesTo s (k + 1) = classesTo s k + if hasB s k then 2 ^ k else 0 := rfl
      have hlt2 := classesTo_lt s k
      have hpow : 2 ^ k ≤ 2 ^ 13 := Nat.pow_le_pow_right (by decide) (by omega)
      generalize classesTo s k = acc at hstep hlt2 ⊢
      generalize 2 ^ k = pw at hidx hstep hlt2 hpow
      have HC := Lib.hid hcon
      have HS := Lib.hid hstep
      clear hcon hstep
      have hsum : acc + pw ≤ 65535 := by omega
      clear hlt2 hpow
      cases hh : hasB s k
      all_goals
        rw [hh] at HC HS
        go_wp2_with fail
        refine (HC.out _ (hcr.below ((Below.refl _ _).alloc (Nat.le_refl _) _))).mono ?_
        rintro e w2 ⟨rfl, hb2⟩
        have hc0 : w2.cell? ⟨wr.heap.size, 0, none⟩ = some (.int .u16 pw) := (hb2.cell (p := ⟨wr.heap.size, 0, none⟩) (by simp)).trans (by simp [go_sem])
        have hbw : Below wr.heap.size wr w2 := ((Below.refl _ wr).alloc (Nat.le_refl _) _).trans (hb2.mono (by simp))
        clear hb2
        go_wp2_with fail
        go_roundw
        case rel => exact ⟨k + 1, by omega, by go_num, int_eq (by rw [HS.out]; simp), hbr.trans (hbw.mono hbr.size), hcr.below hbw⟩
        case measure => simp [intOf]; omega
    · go_wp2_with fail
      go_ret
      have e : k = 14 := by omega
      subst e
      exact ⟨rfl, hbr⟩
end Go.Proofs.YtdcpmnkebhilpaaGreatDoor
