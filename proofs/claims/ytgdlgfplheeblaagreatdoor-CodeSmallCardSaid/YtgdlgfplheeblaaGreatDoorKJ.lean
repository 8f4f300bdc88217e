/-
  Package letterbaglaw17: awake.
-/
import Derived.Test.YtgdlgfplheeblaaGreatDoorKI
namespace Go.Proofs.YtgdlgfplheeblaaGreatDoor
open Go.RowKit
set_option linter.unusedVariables false
set_option maxRecDepth 100000
def exA : ByteArray := ⟨#[49, 48, 48, 48, 48, 48, 49, 49, 48, 49, 48, 48, 48, 48, 49, 50, 55]⟩
def exB : ByteArray := ⟨#[50, 49, 49, 49, 48, 49, 48, 48, 50, 49, 48, 48, 48, 48, 48, 53, 49]⟩
theorem num_letter {k : UInt8} (h : k.toNat - 64 < 100) : num1 true k = [UInt8.ofNat (48 + (k.toNat - 64) / 10), UInt8.ofNat (48 + (k.toNat - 64) % 10)] := padL_two h
theorem exA_body : bodyL 1 [48, 49, 49, 48, 49] 12 = [49, 48, 48, 48, 48, 48, 49, 49, 48, 49, 48, 48, 48, 48, 49, 50] := by
  unfold bodyL
  rw [← lastD_pad (p := 12) (by decide)]
  decide
theorem exB_num : numL (patOf 2) [75, 49, 65, 48, 66, 49] = [49, 49, 49, 48, 49, 48, 48, 50, 49] := by
  show num1 true 75 ++ (num1 false 49 ++ (num1 true 65 ++ (num1 false 48 ++ (num1 true 66 ++ (num1 false 49 ++ []))))) = _
  rw [num_letter (by decide), num_letter (by decide), num_letter (by decide)]
  decide
theorem exB_body : bodyL 2 [75, 49, 65, 48, 66, 49] 5 = [50, 49, 49, 49, 48, 49, 48, 48, 50, 49, 48, 48, 48, 48, 48, 53] := by
  unfold bodyL
  rw [exB_num, ← lastD_pad (p := 5) (by decide)]
  decide
theorem exA_enc : encB 1 [48, 49, 49, 48, 49] 12 = exA := by
  unfold encB
  rw [exA_body]
  decide +kernel
theorem exB_enc : encB 2 [75, 49, 65, 48, 66, 49] 5 = exB := by
  unfold encB
  rw [exB_body]
  decide +kernel
theorem exA_dec : decR exA = (1, ⟨#[48, 49, 49, 48, 49]⟩, 12, 0) := by
  have := dec_enc (j := 1) (.inl rfl) (l := [48, 49, 49, 48, 49]) (by decide) (p := 12) (by decide) (by decide)
  rw [exA_enc] at this
  exact this
theorem exA_encR : encR 1 ⟨#[48, 49, 49, 48, 49]⟩ 12 = (exA, 0) := by
  have := encR_ok (j := 1) (.inl rfl) (l := [48, 49, 49, 48, 49]) (by decide) (p := 12) (by decide) (by decide)
  rw [exA_enc] at this
  exact this
theorem exB_encR : encR 2 ⟨#[75, 49, 65, 48, 66, 49]⟩ 5 = (exB, 0) := by
  have := encR_ok (j := 2) (.inr (.inl rfl)) (l := [75, 49, 65, 48, 66, 49]) (by decide) (p := 5) (by decide) (by decide)
  rw [exB_enc] at this
  exact this
def exC : ByteArray := ⟨#[49, 48, 48, 48, 48, 48, 49, 49, 48, 49, 48, 48, 48, 48, 49, 50, 56]⟩
theorem exC_dec : decR exC = noDec 172 := decR_172 rfl (by decide +kernel) (by decide +kernel)
def exD : ByteArray := ⟨#[49, 48, 48, 48, 48, 48, 49, 49, 48, 49, 48, 48, 48, 48, 49, 50]⟩
theorem exD_dec : decR exD = noDec 171 := decR_171 (fun h => absurd h.1 (by decide))
theorem exE_enc : encR 2 ⟨#[75, 49, 65, 32, 48, 66, 49]⟩ 5 = (baE, 170) := by
  unfold encR
  rw [if_neg (by decide), if_pos (by decide +kernel)]
theorem exF_enc : encR 4 ⟨#[48, 49, 49, 48, 49]⟩ 5 = (baE, 2) := by
  unfold encR
  rw [if_pos (by decide)]
/-- What is known of the library's table, carried along. -/
def TabIn (w W : World) : Prop := Below w.heap.size w W
theorem enc_at (c p : Int) (s : ByteArray) {r : ByteArray} {er : Int} (h : encR c s p = (r, er)) (hs : s.size ≤ maxLen) {w : World} (ht : TabW w) (hg : 3 < w.heap.size) (W : World) (hB : Below w.heap.size w W) :
    Calls Tryz.prog 12 #[.int .u8 c, .string s, .int .i64 p] W fun e w' => e = .returned (.tuple #[.string r, .int .i64 er]) ∧ Below w.heap.size w w' := by
  have := enc_any c p s W hs (ht.below hB hg) (Nat.lt_of_lt_of_le hg hB.size)
  rw [h] at this
  exact this.mono fun e w' ⟨a, b⟩ => ⟨a, hB.trans (b.mono hB.size)⟩
theorem dec_at (t : ByteArray) {c : Int} {s : ByteArray} {p er : Int} (h : decR t = (c, s, p, er)) (hs : t.size ≤ maxLen) {w : World} (ht : TabW w) (hg : 3 < w.heap.size) (W : World) (hB : Below w.heap.size w W) :
    Calls Tryz.prog 14 #[.string t] W fun e w' => e = .returned (.tuple #[.int .u8 c, .string s, .int .i64 p, .int .i64 er]) ∧ Below w.heap.size w w' := by
  have := dec_any t W hs (ht.below hB hg) (Nat.lt_of_lt_of_le hg hB.size)
  unfold DecPost at this
  rw [h] at this
  exact this.mono fun e w' ⟨a, b⟩ => ⟨a, hB.trans (b.mono hB.size)⟩
set_option maxHeartbeats 8000000 in
theorem awake_any (w : World) (ht : TabW w) (hg : 3 < w.heap.size) : Calls Tryz.prog 9 #[] w fun e w' => e = .returned (.bool true) ∧ Below w.heap.size w w' := by
  have C1 := Lib.hid (enc_at 1 12 ⟨#[48, 49, 49, 48, 49]⟩ exA_encR (by decide) ht hg)
  have C2 := Lib.hid (enc_at 2 5 ⟨#[75, 49, 65, 48, 66, 49]⟩ exB_encR (by decide) ht hg)
  have C3 := Lib.hid (dec_at exA exA_dec (by decide) ht hg)
  have C4 := Lib.hid (dec_at exC exC_dec (by decide) ht hg)
  have C5 := Lib.hid (dec_at exD exD_dec (by decide) ht hg)
  have C6 := Lib.hid (enc_at 2 5 ⟨#[75, 49, 65, 32, 48, 66, 49]⟩ exE_enc (by decide) ht hg)
  have C7 := Lib.hid (enc_at 4 5 ⟨#[48, 49, 49, 48, 49]⟩ exF_enc (by decide) ht hg)
  have q1 : (exA.toList == [49, 48, 48, 48, 48, 48, 49, 49, 48, 49, 48, 48, 48, 48, 49, 50, 55]) = true := by rw [ByteArray.toList_eq]; decide
  have q2 : (exB.toList == [50, 49, 49, 49, 48, 49, 48, 48, 50, 49, 48, 48, 48, 48, 48, 53, 49]) = true := by rw [ByteArray.toList_eq]; decide
  clear ht
  go_enter Tryz.func9, Tryz.ntmps9
  go_wp2_with fail
  refine (C1.out _ (Below.refl _ _)).mono ?_
  rintro e w1 ⟨rfl, hb1⟩
  have HB1 := Lib.hid hb1
  clear hb1
  go_wp2_with fail
  refine (C2.out _ HB1.out).mono ?_
  rintro e w2 ⟨rfl, hb2⟩
  have HB2 := Lib.hid hb2
  clear hb2
  go_wp2_with fail
  refine (C3.out _ HB2.out).mono ?_
  rintro e w3 ⟨rfl, hb3⟩
  have HB3 := Lib.hid hb3
  clear hb3
  go_wp2_with fail
  refine (C4.out _ HB3.out).mono ?_
  rintro e w4 ⟨rfl, hb4⟩
  have HB4 := Lib.hid hb4
  clear hb4
  go_wp2_with fail
  refine (C5.out _ HB4.out).mono ?_
  rintro e w5 ⟨rfl, hb5⟩
  have HB5 := Lib.hid hb5
  clear hb5
  go_wp2_with fail
  refine (C6.out _ HB5.out).mono ?_
  rintro e w6 ⟨rfl, hb6⟩
  have HB6 := Lib.hid hb6
  clear hb6
  go_wp2_with fail
  refine (C7.out _ HB6.out).mono ?_
  rintro e w7 ⟨rfl, hb7⟩
  have HB7 := Lib.hid hb7
  clear hb7
  go_wp2_with fail
  go_ret
  exact ⟨rfl, HB7.out⟩
end Go.Proofs.YtgdlgfplheeblaaGreatDoor
