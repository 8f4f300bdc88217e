/-
  The walk of letterbaglaw08.LexClasses.
-/
import Derived.Test.YtenenmlgnifelaaDoorLp2
import Derived.Test.YtenenmlgnifelaaDoorAw
namespace Go.Proofs.YtenenmlgnifelaaDoor
open Go.RowKit
set_option linter.unusedVariables false
def codeC : Array Value := #[.int .u16 256, .int .u16 512, .int .u16 1024, .int .u16 2048, .int .u16 4096, .int .u16 8192]
def kindC : Array Value := #[.int .u16 8, .int .u16 16, .int .u16 32, .int .u16 64]
theorem and_mask (s : ByteArray) (mask v : Nat) (hm : mask < 2 ^ 14) (hv : v < 2 ^ 14) (h : ∀ i, i < 14 → (hasB s i && mask.testBit i) = v.testBit i) : bits BinOp.and IntKind.u16 (classesB s) (mask : Int) = (v : Int) := by
  have h1 := classesTo_lt s 14
  rw [and_u16 _ _ (by unfold classesB; omega) (by omega)]
  congr 1
  apply Nat.eq_of_testBit_eq
  intro i
  rw [Nat.testBit_and]
  unfold classesB
  rw [classesTo_bit]
  by_cases hi : i < 14
  · rw [decide_eq_true hi, Bool.true_and]; exact h i hi
  · have e : 2 ^ 14 ≤ 2 ^ i := Nat.pow_le_pow_right (by decide) (by omega)
    rw [decide_eq_false hi, Bool.false_and, Bool.false_and, Nat.testBit_lt_two_pow (by omega)]
theorem cases14 {P : Nat → Prop} (h0 : P 0) (h1 : P 1) (h2 : P 2) (h : ∀ i, 3 ≤ i → i < 14 → P i) : ∀ i, i < 14 → P i
  | 0, _ => h0 | 1, _ => h1 | 2, _ => h2 | i + 3, hi => h (i + 3) (by omega) hi
theorem low_bit {mask : Nat} (hm : mask < 8) {i : Nat} (hi : 3 ≤ i) : mask.testBit i = false := Nat.testBit_lt_two_pow (Nat.lt_of_lt_of_le hm (Nat.pow_le_pow_right (n := 2) (by decide) hi))
theorem low_mask (s : ByteArray) (mask v : Nat) (hm : mask < 8) (hv : v < 8) (h0 : (hasB s 0 && mask.testBit 0) = v.testBit 0) (h1 : (hasB s 1 && mask.testBit 1) = v.testBit 1) (h2 : (hasB s 2 && mask.testBit 2) = v.testBit 2) :
    bits BinOp.and IntKind.u16 (classesB s) (mask : Int) = (v : Int) :=
  and_mask s mask v (by omega) (by omega) (cases14 h0 h1 h2 (fun i hi _ => by rw [low_bit hm hi, low_bit hv hi, Bool.and_false]))
theorem val_whole {s : ByteArray} (hn : numberB s = true) : 1 ≤ valOf s.data.toList ∧ valOf s.data.toList ≤ 999999 := by
  have hp := numberB_parts hn
  have e : s.data.toList.take s.size = s.data.toList := List.take_of_length_le (by simp)
  have a := valOf_pos hn s.size (by omega) (Nat.le_refl _)
  have b := (valOf_bd hn s.size (Nat.le_refl _)).2
  have c : (10 : Int) ^ s.size ≤ 10 ^ 6 := by exact_mod_cast Nat.pow_le_pow_right (by decide : 0 < 10) hp.2.1
  rw [e] at a b
  omega
theorem forms (s : ByteArray) :
    (∃ v : Int, numR s = (v, [], true) ∧ 1 ≤ v ∧ v ≤ 999999 ∧ bits BinOp.and IntKind.u16 (classesB s) 1 = 1 ∧ bits BinOp.and IntKind.u16 (classesB s) 6 = 0 ∧ bits BinOp.and IntKind.u16 (classesB s) 2 = 0 ∧ bits BinOp.and IntKind.u16 (classesB s) 3 = 1) ∨
    (∃ (v : Int) (c : UInt8), numR s = (v, [c], true) ∧ 1 ≤ v ∧ v ≤ 999999 ∧ bits BinOp.and IntKind.u16 (classesB s) 1 = 0 ∧ bits BinOp.and IntKind.u16 (classesB s) 2 = 2 ∧ bits BinOp.and IntKind.u16 (classesB s) 4 = 4 ∧ bits BinOp.and IntKind.u16 (classesB s) 3 = 2) ∨
    (numR s = (0, [], false) ∧ bits BinOp.and IntKind.u16 (classesB s) 1 = 0 ∧ bits BinOp.and IntKind.u16 (classesB s) 2 = 0 ∧ bits BinOp.and IntKind.u16 (classesB s) 3 = 0) := by
  cases hlt : hasB s 1
  · cases hn : hasB s 0
    · refine .inr (.inr ⟨?_, ?_, ?_, ?_⟩)
      · unfold numR; rw [show letteredB s = false from hlt, show numberB s = false from hn]; rfl
      · exact low_mask s 1 0 (by decide) (by decide) (by rw [hn]; rfl) (by rw [hlt]; rfl) (by cases hasB s 2 <;> rfl)
      · exact low_mask s 2 0 (by decide) (by decide) (by rw [hn]; rfl) (by rw [hlt]; rfl) (by cases hasB s 2 <;> rfl)
      · exact low_mask s 3 0 (by decide) (by decide) (by rw [hn]; rfl) (by rw [hlt]; rfl) (by cases hasB s 2 <;> rfl)
    · have hnf : hasB s 2 = false := number_no_name hn
      have hv := val_whole hn
      refine .inl ⟨_, ?_, hv.1, hv.2, ?_, ?_, ?_, ?_⟩
      · unfold numR; rw [show letteredB s = false from hlt, show numberB s = true from hn]; rfl
      · exact low_mask s 1 1 (by decide) (by decide) (by rw [hn]; rfl) (by rw [hlt]; rfl) (by rw [hnf]; rfl)
      · exact low_mask s 6 0 (by decide) (by decide) (by rw [hn]; rfl) (by rw [hlt]; rfl) (by rw [hnf]; rfl)
      · exact low_mask s 2 0 (by decide) (by decide) (by rw [hn]; rfl) (by rw [hlt]; rfl) (by rw [hnf]; rfl)
      · exact low_mask s 3 1 (by decide) (by decide) (by rw [hn]; rfl) (by rw [hlt]; rfl) (by rw [hnf]; rfl)
  · have hn : hasB s 0 = false := by
      cases hh : hasB s 0
      · rfl
      · have := number_not_lettered hh
        exact absurd (hlt.symm.trans this) (by decide)
    have hnm : hasB s 2 = true := lettered_name hlt
    have hx := hlt
    change letteredB s = true at hx
    unfold letteredB at hx
    simp only [Bool.and_eq_true, decide_eq_true_eq] at hx
    have hv := val_whole hx.1.2
    have e : (s.extract 0 (s.size - 1)).data.toList = s.data.toList.take (s.size - 1) := by rw [ByteArray.data_extract, Array.toList_extract]; simp
    rw [e] at hv
    refine .inr (.inl ⟨_, s.data.toList.getD (s.size - 1) 0, ?_, hv.1, hv.2, ?_, ?_, ?_, ?_⟩)
    · unfold numR; rw [show letteredB s = true from hlt]; rfl
    · exact low_mask s 1 0 (by decide) (by decide) (by rw [hn]; rfl) (by rw [hlt]; rfl) (by rw [hnm]; rfl)
    · exact low_mask s 2 2 (by decide) (by decide) (by rw [hn]; rfl) (by rw [hlt]; rfl) (by rw [hnm]; rfl)
    · exact low_mask s 4 4 (by decide) (by decide) (by rw [hn]; rfl) (by rw [hlt]; rfl) (by rw [hnm]; rfl)
    · exact low_mask s 3 2 (by decide) (by decide) (by rw [hn]; rfl) (by rw [hlt]; rfl) (by rw [hnm]; rfl)
theorem kind_cases (s : ByteArray) (k : Nat) (j : Nat) (hk : hasB s k = kindOf (kindsB s.data.toList) (j : Nat)) (h14 : k < 14) (hj : 1 ≤ j) (hj4 : j ≤ 4) :
    (bits BinOp.and IntKind.u16 (classesB s) ((2 ^ k : Nat) : Int) = ((2 ^ k : Nat) : Int) ∧ bits BinOp.and IntKind.u8 ((kindsB s.data.toList : Int) / 2 ^ j) 1 = 1) ∨
    (bits BinOp.and IntKind.u16 (classesB s) ((2 ^ k : Nat) : Int) = 0 ∧ bits BinOp.and IntKind.u8 ((kindsB s.data.toList : Int) / 2 ^ j) 1 = 0) := by
  have hp : (0 : Int) < 2 ^ j := Int.pow_pos (by decide)
  have hlt := kindsB_lt s.data.toList
  have ha := and_one ((kindsB s.data.toList : Int) / 2 ^ j) (Int.ediv_nonneg (by omega) (Int.le_of_lt hp)) (Int.lt_of_le_of_lt (Int.ediv_le_self _ (by omega)) (by omega))
  have hb := class_bit s k h14
  rw [ha, hb, hk]
  unfold kindOf
  rw [Int.toNat_natCast]
  by_cases h : (kindsB s.data.toList : Int) / 2 ^ j % 2 = 1
  · left; simp [h]
  · right
    refine ⟨by simp [h], ?_⟩
    omega
set_option maxRecDepth 100000 in
set_option maxHeartbeats 8000000 in
theorem lexClasses_walk (s : ByteArray) (m : Int) (w : World) (hs : s.size ≤ maxLen) (h0 : 0 < w.heap.size) (hm : w.cell? ⟨0, 0, none⟩ = some (.int .i64 m)) :
    Calls Tryd.prog 5 #[.string s] w fun e w' => e = .returned (.bool true) ∧ Below w.heap.size w w' := by
  have HM := Lib.hid hm
  clear hm
  have hsm := hs
  unfold maxLen at hs
  by_cases hlong : 1000 < s.size
  · go_enter Tryd.func5, Tryd.ntmps5
    go_wp2_with (go_at_call 11; refine (awake_any m _ h0 HM.out).mono ?_; rintro e w1 ⟨rfl, hB⟩)
    go_ret
    exact ⟨rfl, hB⟩
  · go_enter Tryd.func5, Tryd.ntmps5
    go_wp2_with (first
      | (go_at_call 11; refine (awake_any m _ h0 HM.out).mono ?_; rintro e w1 ⟨rfl, hB⟩)
      | (go_at_call 16; refine (classes_any _ _ hsm).mono ?_; rintro e w2 ⟨rfl, hb2⟩; replace hB := hB.trans (hb2.mono hB.size); clear hb2))
    go_loop [4, 21] (fun t i => ∃ k : Nat, k ≤ 6 ∧ i = .int .i64 k ∧ t = .int .i64 (codesTo s k)) (fun _ i => 6 - (intOf i).toNat)
    case atStart => exact ⟨0, Nat.zero_le _, rfl, rfl⟩
    case round =>
      obtain ⟨k, hk, rfl, rfl⟩ := hrel
      have hcl := (codes_le s k hk).1
      by_cases h6 : k = 6
      · subst h6
        generalize hcd : codesTo s 6 = cd at hcl ⊢
        have HCD := Lib.hid hcd
        clear hcd hk
        have h128 : cd = 1 → hasB s 7 = true := fun e => by
          obtain ⟨k, a, b, c⟩ := (codes_le s 6 (Nat.le_refl _)).2 (by rw [HCD.out]; exact e)
          exact code_flat a (by omega) c
        have b128 := class_bit s 7 (by decide)
        have hcc : cd = 0 ∨ cd = 1 := by omega
        clear hcl HCD
        rcases forms s with ⟨vv, hR, hv1, hv2, b1, b6, b2, b3⟩ | ⟨vv, lc, hR, hv1, hv2, b1, b2, b4, b3⟩ | ⟨hR, b1, b2, b3⟩
        all_goals
          have HR := Lib.hid hR
          clear hR
          rcases hcc with rfl | rfl
        case' inl.inl => clear h128 b128
        case' inr.inl.inl => clear h128 b128
        case' inr.inr.inl => clear h128 b128
        case' inl.inr => rw [h128 rfl] at b128; simp at b128; clear h128
        case' inr.inl.inr => rw [h128 rfl] at b128; simp at b128; clear h128
        case' inr.inr.inr => rw [h128 rfl] at b128; simp at b128; clear h128
        all_goals
          go_wp2_with fail
          refine (number_ev HR.out hsm _).mono ?_
          rintro e w3 ⟨rfl, hb3⟩
          go_wp2_with fail
          replace hB := (hB.alloc hB.size _).trans (hb3.mono (hB.alloc hB.size _).size)
          clear hb3
          go_loopw [94] (fun i wr => ∃ k : Nat, k ≤ 4 ∧ i = .int .i64 k ∧ Below w.heap.size w wr ∧ wr.heap[w3.heap.size]? = some (.cells kindC 28 (0, 0))) (fun i _ => 4 - (intOf i).toNat)
          case atStart => exact ⟨0, Nat.zero_le _, rfl, hB.alloc hB.size _, World.alloc_heap_new w3 _⟩
          case round =>
            clear hB
            obtain ⟨k, hk, rfl, hB, hblk⟩ := hrel
            have hbl := (Array.getElem?_eq_some_iff.1 hblk).1
            by_cases h4 : k = 4
            · subst h4
              clear hblk hbl
              have hc := classesTo_lt s 14
              have hrz := right_or_zero s
              change classesB s < 2 ^ 14 at hc
              generalize classesB s = cl at hc hrz ⊢
              rcases hrz with hr | rfl
              · go_wp2_with (go_at_call 19; refine (right_any _ _ (by omega)).mono ?_; rintro e w5 ⟨rfl, hb5⟩; rw [hr])
                go_ret
                exact ⟨rfl, hB.trans (hb5.mono hB.size)⟩
              · go_wp2_with (go_at_call 19; refine (right_any _ _ (by omega)).mono ?_; rintro e w5 ⟨rfl, hb5⟩)
                all_goals
                  go_ret
                  exact ⟨rfl, hB.trans (hb5.mono hB.size)⟩
            · have hcase : k = 0 ∨ k = 1 ∨ k = 2 ∨ k = 3 := by omega
              clear h4 hk
              rcases hcase with rfl | rfl | rfl | rfl
              · have c1 : wr.cell? ⟨w3.heap.size, 0, none⟩ = some (.int .u16 8) := (cell_of_row wr _ 0 _ _ _ hblk).trans rfl
                rcases kind_cases s 3 1 rfl (by decide) (by decide) (by decide) with ⟨d1, d2⟩ | ⟨d1, d2⟩
                all_goals
                  simp at d1 d2
                  go_wp2_with (go_at_call 18; refine (kinds_any _ _).mono ?_; rintro e w5 ⟨rfl, hb5⟩)
                  exact ⟨⟨1, by decide, rfl, hB.trans (hb5.mono hB.size), (hb5.block _ hbl).trans hblk⟩, by decide⟩
              · have c1 : wr.cell? ⟨w3.heap.size, 1, none⟩ = some (.int .u16 16) := (cell_of_row wr _ 1 _ _ _ hblk).trans rfl
                rcases kind_cases s 4 2 rfl (by decide) (by decide) (by decide) with ⟨d1, d2⟩ | ⟨d1, d2⟩
                all_goals
                  simp at d1 d2
                  go_wp2_with (go_at_call 18; refine (kinds_any _ _).mono ?_; rintro e w5 ⟨rfl, hb5⟩)
                  exact ⟨⟨2, by decide, rfl, hB.trans (hb5.mono hB.size), (hb5.block _ hbl).trans hblk⟩, by decide⟩
              · have c1 : wr.cell? ⟨w3.heap.size, 2, none⟩ = some (.int .u16 32) := (cell_of_row wr _ 2 _ _ _ hblk).trans rfl
                rcases kind_cases s 5 3 rfl (by decide) (by decide) (by decide) with ⟨d1, d2⟩ | ⟨d1, d2⟩
                all_goals
                  simp at d1 d2
                  go_wp2_with (go_at_call 18; refine (kinds_any _ _).mono ?_; rintro e w5 ⟨rfl, hb5⟩)
                  exact ⟨⟨3, by decide, rfl, hB.trans (hb5.mono hB.size), (hb5.block _ hbl).trans hblk⟩, by decide⟩
              · have c1 : wr.cell? ⟨w3.heap.size, 3, none⟩ = some (.int .u16 64) := (cell_of_row wr _ 3 _ _ _ hblk).trans rfl
                rcases kind_cases s 6 4 rfl (by decide) (by decide) (by decide) with ⟨d1, d2⟩ | ⟨d1, d2⟩
                all_goals
                  simp at d1 d2
                  go_wp2_with (go_at_call 18; refine (kinds_any _ _).mono ?_; rintro e w5 ⟨rfl, hb5⟩)
                  exact ⟨⟨4, by decide, rfl, hB.trans (hb5.mono hB.size), (hb5.block _ hbl).trans hblk⟩, by decide⟩
      · have hst : codesTo s (k + 1) = codesTo s k + if hasB s (8 + k) then 1 else 0 := rfl
        have hbit := class_bit s (8 + k) (by omega)
        have hcase : k = 0 ∨ k = 1 ∨ k = 2 ∨ k = 3 ∨ k = 4 ∨ k = 5 := by omega
        clear h6 hk
        rcases hcase with rfl | rfl | rfl | rfl | rfl | rfl
        all_goals
          cases hh : hasB s _
          all_goals
            rw [hh] at hbit hst
            simp at hbit
            generalize codesTo s _ = cc at hcl hst ⊢
            have HS := Lib.hid hst
            clear hst hh
            go_wp2_with fail
            go_round
            case rel => exact ⟨_, by decide, rfl, int_eq (by rw [HS.out]; simp)⟩
            case measure => decide
end Go.Proofs.YtenenmlgnifelaaDoor
