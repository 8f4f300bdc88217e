/-
  Amounts and their texts: money.Right, money.Text.
-/
import Derived.Test.YtojedplbhialpaaGreatDoorShelf
import Derived.Test.YtojedplbhialpaaGreatDoorBL
import Derived.Test.YtojedplbhialpaaGreatDoorGA
import Derived.Lib.QuietBelow
import Derived.Lib.AppendIntMem
import Derived.WalkSmall
namespace Go.Proofs.YtojedplbhialpaaGreatDoor
open Go.RowKit
set_option linter.unusedVariables false
set_option maxRecDepth 100000
def TabW (w : World) : Prop := Lib.TabIs Tryz.prog w "internal/strconv.uint64pow10" .u64 Lib.pow10Tab ∧ 0 < w.heap.size
theorem TabW.below {W W' : World} (h : TabW W) (hb : Below W.heap.size W W') : TabW W' :=
  ⟨var?_below hb (show Tryz.prog.globalNamed "internal/strconv.uint64pow10" = some 0 by kernel_rfl) h.2 h.1, Nat.lt_of_lt_of_le h.2 hb.size⟩
def maxCents : Int := 1000000000000000
def amtB (c : Int) : Bool := decide (-maxCents ≤ c) && decide (c ≤ maxCents)
theorem money_right (c : Int) (w : World) : Calls Tryz.prog 110 #[.int .i64 c] w fun e w' => e = .returned (.bool (amtB c)) ∧ w = w' := by
  have e : amtB c = (decide (-1000000000000000 ≤ c) && decide (c ≤ 1000000000000000)) := rfl
  rw [e]
  by_cases h : -1000000000000000 ≤ c
  · have d1 : decide (-1000000000000000 ≤ c) = true := decide_eq_true h
    rw [d1]
    go_enter Tryz.func110, Tryz.ntmps110
    go_wp2
    go_ret
    exact ⟨by simp, rfl⟩
  · have d1 : decide (-1000000000000000 ≤ c) = false := decide_eq_false h
    rw [d1]
    go_enter Tryz.func110, Tryz.ntmps110
    go_wp2
    go_ret
    exact ⟨by simp, rfl⟩
def itoaB (n : Int) : ByteArray := ⟨(Lib.itoa n).toArray⟩
theorem nDigits_le : ∀ (k n : Nat), 1 ≤ k → n < 10 ^ k → Lib.nDigits n ≤ k
  | 0, _, h, _ => by omega
  | 1, n, _, h => by rw [Lib.nDigits_small (by simpa using h)]; exact Nat.le_refl _
  | k + 2, n, _, h => by
    by_cases hn : n < 10
    · rw [Lib.nDigits_small hn]; omega
    · rw [Lib.nDigits_big hn]
      have := nDigits_le (k + 1) (n / 10) (by omega) (by rw [Nat.pow_succ] at h; omega)
      omega
theorem itoaB_size (n : Int) (h0 : -9223372036854775808 ≤ n) (h1 : n ≤ 9223372036854775807) : (itoaB n).size ≤ 20 := by
  show (Lib.itoa n).toArray.size ≤ 20
  rw [List.size_toArray]
  unfold Lib.itoa
  split
  · have : Lib.nDigits n.natAbs ≤ 19 := nDigits_le 19 _ (by omega) (by omega)
    rw [List.length_cons, Lib.decDigits_length]
    omega
  · have : Lib.nDigits n.toNat ≤ 19 := nDigits_le 19 _ (by omega) (by omega)
    rw [Lib.decDigits_length]
    omega
theorem itoa_any (n : Int) (w : World) (h0 : -9223372036854775808 ≤ n) (h1 : n ≤ 9223372036854775807) (ht : TabW w) : Calls Tryz.prog 57 #[.int .i64 n] w fun e w' => e = .returned (.string (itoaB n)) ∧ Below w.heap.size w w' := by
  refine (Tryz.strconv_Itoa n h0 h1 w ht.1).mono ?_
  rintro e w' ⟨rfl, k, os, rfl⟩
  exact ⟨rfl, Lib.below_grow _ w (Nat.le_refl _) k os⟩
def twoB (r : ByteArray) : ByteArray := if r.size < 2 then ⟨#[48]⟩ ++ r else r
def moneyB (c : Int) : ByteArray := (if c < 0 then ⟨#[45]⟩ else ⟨#[]⟩) ++ itoaB ((c.natAbs : Int) / 100) ++ ⟨#[46]⟩ ++ twoB (itoaB ((c.natAbs : Int) % 100))
set_option maxHeartbeats 4000000 in
theorem money_text (c : Int) (w : World) (hc : amtB c = true) (ht : TabW w) : Calls Tryz.prog 112 #[.int .i64 c] w fun e w' => e = .returned (.tuple #[.string (moneyB c), .int .i64 0]) ∧ Below w.heap.size w w' := by
  have HR := Lib.hid (money_right c w)
  rw [hc] at HR
  have hb : -1000000000000000 ≤ c ∧ c ≤ 1000000000000000 := by
    unfold amtB maxCents at hc
    rw [Bool.and_eq_true, decide_eq_true_eq, decide_eq_true_eq] at hc
    exact hc
  clear hc
  obtain ⟨x, hx⟩ : ∃ x : Int, x = (c.natAbs : Int) := ⟨_, rfl⟩
  have hx0 : 0 ≤ x ∧ x ≤ 1000000000000000 := by omega
  obtain ⟨m0, m1⟩ : 0 ≤ x % 100 ∧ x % 100 ≤ 1000000000000000 := by omega
  obtain ⟨q0, q1⟩ : 0 ≤ x / 100 ∧ x / 100 ≤ 1000000000000000 := by omega
  have h1 := fun (W : World) (h : TabW W) => itoa_any (x % 100) W (by omega) (by omega) h
  have h2 := fun (W : World) (h : TabW W) => itoa_any (x / 100) W (by omega) (by omega) h
  have z1 : (itoaB (x % 100)).size ≤ 20 := itoaB_size _ (by omega) (by omega)
  have z2 : (itoaB (x / 100)).size ≤ 20 := itoaB_size _ (by omega) (by omega)
  have hm : moneyB c = (if c < 0 then ⟨#[45]⟩ else ⟨#[]⟩) ++ itoaB (x / 100) ++ ⟨#[46]⟩ ++ twoB (itoaB (x % 100)) := by unfold moneyB; rw [hx]
  generalize itoaB (x % 100) = rb at h1 z1 hm
  generalize itoaB (x / 100) = qb at h2 z2 hm
  have HM := Lib.hid hm
  have H1 := Lib.hid h1
  have H2 := Lib.hid h2
  have HT := Lib.hid ht
  clear h1 h2 ht hm m0 m1 q0 q1
  by_cases hr : rb.size < 2
  all_goals
    by_cases h : c < 0
    · obtain rfl : c = -x := by omega
      have hx1 : 0 < x := by omega
      rw [if_pos h] at HM
      clear hx h hb
      go_enter Tryz.func112, Tryz.ntmps112
      go_wp2_with (first
        | (go_at_call 110; refine HR.out.mono ?_; rintro e w1 ⟨rfl, rfl⟩)
        | (go_at_call 57; with_reducible refine (H2.out _ (HT.out.below hb2)).mono ?_; rintro e w3 ⟨rfl, hb3⟩)
        | (go_at_call 57; with_reducible refine (H1.out _ HT.out).mono ?_; rintro e w2 ⟨rfl, hb2⟩))
      go_ret2
      refine ⟨?_, below_c hb2 hb2.size hb3⟩
      rw [HM.out]
      unfold twoB
      first | rw [if_pos hr] | rw [if_neg hr]
      rfl
    · obtain rfl : c = x := by omega
      have hx1 : ¬ c < 0 := h
      rw [if_neg h] at HM
      clear hx h hb
      go_enter Tryz.func112, Tryz.ntmps112
      go_wp2_with (first
        | (go_at_call 110; refine HR.out.mono ?_; rintro e w1 ⟨rfl, rfl⟩)
        | (go_at_call 57; with_reducible refine (H2.out _ (HT.out.below hb2)).mono ?_; rintro e w3 ⟨rfl, hb3⟩)
        | (go_at_call 57; with_reducible refine (H1.out _ HT.out).mono ?_; rintro e w2 ⟨rfl, hb2⟩))
      go_ret2
      refine ⟨?_, below_c hb2 hb2.size hb3⟩
      rw [HM.out]
      unfold twoB
      first | rw [if_pos hr] | rw [if_neg hr]
      rfl
end Go.Proofs.YtojedplbhialpaaGreatDoor
