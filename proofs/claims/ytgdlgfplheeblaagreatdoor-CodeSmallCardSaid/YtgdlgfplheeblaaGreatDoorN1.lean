/-
  letterbaglaw17: encodes and decodes are true; the walk of CodeTells.
-/
import Derived.Test.YtgdlgfplheeblaaGreatDoorM8
import Derived.Test.YtgdlgfplheeblaaGreatDoorL1
namespace Go.Proofs.YtgdlgfplheeblaaGreatDoor
open Go.RowKit
set_option linter.unusedVariables false
set_option maxRecDepth 100000
theorem encodes_any (c p : Int) (s : ByteArray) (hc : 0 ≤ c) (hs : s.size ≤ 60000) {w : World} (ht : TabW w) (hg : 3 < w.heap.size) (W : World) (hB : Below w.heap.size w W) :
    Calls Tryz.prog 10 #[.int .u8 c, .string s, .int .i64 p] W fun e w' => e = .returned (.bool true) ∧ Below W.heap.size W w' := by
  have H1 := Lib.hid (enc_any c p s W (by unfold maxLen; omega) (ht.below hB hg) (Nat.lt_of_lt_of_le hg hB.size))
  have H2 := Lib.hid (fun W' => rEnc_any c p s W' hc hs)
  have hbe := ba_eq2 (encR c s p).1 (encR c s p).1
  rw [decide_eq_true rfl] at hbe
  generalize (encR c s p).1 = r at *
  generalize (encR c s p).2 = er at *
  have hee : (er == er) = true := by simp
  clear ht hs
  go_enter Tryz.func10, Tryz.ntmps10
  go_wp2_with fail
  refine (H1.out).mono ?_
  rintro e w1 ⟨rfl, hb1⟩
  have HB1 := Lib.hid hb1
  clear hb1 H1
  go_wp2_with fail
  refine (H2.out _).mono ?_
  rintro e w2 ⟨rfl, hb2⟩
  have HB2 := Lib.hid (HB1.out.trans (hb2.mono HB1.out.size))
  clear hb2 H2
  go_wp2_with fail
  go_ret
  exact ⟨rfl, HB2.out⟩
theorem decodes_any (t : ByteArray) (hs : t.size ≤ 60000) {w : World} (ht : TabW w) (hg : 3 < w.heap.size) (W : World) (hB : Below w.heap.size w W) :
    Calls Tryz.prog 11 #[.string t] W fun e w' => e = .returned (.bool true) ∧ Below W.heap.size W w' := by
  have H1 := Lib.hid (dec_any t W (by unfold maxLen; omega) (ht.below hB hg) (Nat.lt_of_lt_of_le hg hB.size))
  have H2 := Lib.hid (fun W' => rDec_any t W' hs)
  unfold DecPost at H1
  unfold RDecPost at H2
  have hbe := ba_eq2 (decR t).2.1 (decR t).2.1
  rw [decide_eq_true rfl] at hbe
  generalize (decR t).1 = x1 at *
  generalize (decR t).2.1 = x2 at *
  generalize (decR t).2.2.1 = x3 at *
  generalize (decR t).2.2.2 = x4 at *
  have e1 : (x1 == x1) = true := by simp
  have e3 : (x3 == x3) = true := by simp
  have e4 : (x4 == x4) = true := by simp
  clear ht hs
  go_enter Tryz.func11, Tryz.ntmps11
  go_wp2_with fail
  refine (H1.out).mono ?_
  rintro e w1 ⟨rfl, hb1⟩
  have HB1 := Lib.hid hb1
  clear hb1 H1
  go_wp2_with fail
  refine (H2.out _).mono ?_
  rintro e w2 ⟨rfl, hb2⟩
  have HB2 := Lib.hid (HB1.out.trans (hb2.mono HB1.out.size))
  clear hb2 H2
  go_wp2_with fail
  go_ret
  exact ⟨rfl, HB2.out⟩
theorem codeTells_walk (c : UInt8) (t : ByteArray) (p : Int) (w : World) (ht : TabW w) (hg : 3 < w.heap.size) :
    Calls Tryz.prog 3 #[.int .u8 c.toNat, .string t, .int .i64 p] w fun e w' => e = .returned (.bool true) ∧ Below w.heap.size w w' := by
  have HAW : Hid (∀ W, Below w.heap.size w W → Calls Tryz.prog 9 #[] W fun e w' => e = .returned (.bool true) ∧ Below w.heap.size w w') := fun W hB =>
    (awake_any W (ht.below hB hg) (Nat.lt_of_lt_of_le hg hB.size)).mono fun e w' ⟨a, b⟩ => ⟨a, hB.trans (b.mono hB.size)⟩
  by_cases h : 100 < t.size
  · have d1 : decide (100 < (t.size : Int)) = true := decide_eq_true (by omega)
    go_enter Tryz.func3, Tryz.ntmps3
    go_wp2_with fail
    refine (HAW.out _ (Below.refl _ _)).mono ?_
    rintro e w1 ⟨rfl, hb1⟩
    go_wp2_with fail
    go_ret
    exact ⟨rfl, hb1⟩
  · have d1 : decide (100 < (t.size : Int)) = false := decide_eq_false (by omega)
    have HE := Lib.hid (fun W hB => encodes_any c.toNat p t (by omega) (by omega) ht hg W hB)
    have HD := Lib.hid (fun W hB => decodes_any t (by omega) ht hg W hB)
    clear ht h
    go_enter Tryz.func3, Tryz.ntmps3
    go_wp2_with fail
    refine (HE.out _ (Below.refl _ _)).mono ?_
    rintro e w1 ⟨rfl, hb1⟩
    have HB1 := Lib.hid hb1
    clear hb1
    go_wp2_with fail
    refine (HD.out _ HB1.out).mono ?_
    rintro e w2 ⟨rfl, hb2⟩
    have HB2 := Lib.hid (HB1.out.trans (hb2.mono HB1.out.size))
    clear hb2
    go_wp2_with fail
    refine (HAW.out _ HB2.out).mono ?_
    rintro e w3 ⟨rfl, hb3⟩
    go_wp2_with fail
    go_ret
    exact ⟨rfl, hb3⟩
end Go.Proofs.YtgdlgfplheeblaaGreatDoor
