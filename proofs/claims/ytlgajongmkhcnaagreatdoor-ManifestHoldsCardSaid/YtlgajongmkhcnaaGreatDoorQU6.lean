import Derived.Test.YtlgajongmkhcnaaGreatDoorQU3
import Derived.Test.YtlgajongmkhcnaaGreatDoorQU1
import Derived.Lib.QuietBelow
import Derived.Lib.AppendIntMem
import Derived.WalkSmall
set_option maxRecDepth 100000
set_option linter.unusedVariables false
set_option maxHeartbeats 32000000
namespace Go.Proofs.YtlgajongmkhcnaaGreatDoor
open Go.RowKit
def TabW (w : World) : Prop := Lib.TabIs Tryz.prog w "internal/strconv.uint64pow10" .u64 Lib.pow10Tab /\ 3 < w.1.size
theorem TabW.below {W W' : World} (h : TabW W) (hb : Below W.1.size W W') : TabW W' :=
 ⟨var?_below hb (show Tryz.prog.globalNamed "internal/strconv.uint64pow10" = some 3 by kernel_rfl) h.2 h.1, ZH h.2 hb.size⟩
def Z4T : Int := 1000000000000000
def Zb2 (c : Int) : Bool := decide (-Z4T <= c) && decide (c <= Z4T)
theorem Z2l (c : Int) (w : World) : Calls Tryz.prog 88 #[.int .i64 c] w fun e w' => e = .returned (.bool (Zb2 c)) /\ w = w' := by
 have e : Zb2 c = (decide (-1000000000000000 <= c) && decide (c <= 1000000000000000)) := rfl
 rw [e]
 by_cases h : -1000000000000000 <= c
 ·have d1 : decide (-1000000000000000 <= c) = true := Kac h
  rw [d1]
  go_enter Tryz.func88, Tryz.ntmps88
  go_wp2
  go_ret
  exact ⟨by simp, rfl⟩
 ·have d1 : decide (-1000000000000000 <= c) = false := Kad h
  rw [d1]
  go_enter Tryz.func88, Tryz.ntmps88
  go_wp2
  go_ret
  exact ⟨by simp, rfl⟩
def Z1d (n : Int) : ByteArray := ⟨(Lib.itoa n).toArray⟩
theorem Z5v : ∀ (k n : Nat), 1 <= k -> n < 10 ^ k -> Lib.nDigits n <= k
 | 0, _, h, _ => by omega
 | 1, n, _, h => by rw [Lib.nDigits_small (by simpa using h)]; exact Z1 _
 | k + 2, n, _, h => by
  by_cases hn : n < 10
  ·rw [Lib.nDigits_small hn]; omega
  ·rw [Lib.nDigits_big hn]
   have := Z5v (k + 1) (n / 10) (by omega) (by rw [Nat.pow_succ] at h; omega)
   omega
theorem Z0v (n : Int) (h0 : -9223372036854775808 <= n) (h1 : n <= 9223372036854775807) : (Z1d n).size <= 20 := by
 show (Lib.itoa n).toArray.size <= 20
 rw [List.size_toArray]
 unfold Lib.itoa
 split
 ·have : Lib.nDigits n.natAbs <= 19 := Z5v 19 _ (by omega) (by omega)
  rw [Ka9, Lib.decDigits_length]
  omega
 ·have : Lib.nDigits n.toNat <= 19 := Z5v 19 _ (by omega) (by omega)
  rw [Lib.decDigits_length]
  omega
theorem Z2E (n : Int) (w : World) (h0 : -9223372036854775808 <= n) (h1 : n <= 9223372036854775807) (ht : TabW w) : Calls Tryz.prog 48 #[.int .i64 n] w fun e w' => e = .returned (.string (Z1d n)) /\ Below w.1.size w w' := by
 refine (Tryz.strconv_Itoa n h0 h1 w ht.1).mono ?_
 rintro e w' ⟨rfl, k, os, rfl⟩
 exact ⟨rfl, Lib.below_grow _ w (Z1 _) k os⟩
def ZiQ (r : ByteArray) : ByteArray := if r.size < 2 then ⟨#[48]⟩ ++ r else r
def Z2B (c : Int) : ByteArray := (if c < 0 then ⟨#[45]⟩ else ⟨#[]⟩) ++ Z1d ((c.natAbs : Int) / 100) ++ ⟨#[46]⟩ ++ ZiQ (Z1d ((c.natAbs : Int) % 100))
theorem Zjc (x : ByteArray) : (⟨#[]⟩ : ByteArray) ++ x = x := by
 apply ByteArray.ext
 rw [ByteArray.data_append]
 simp
theorem ZdN (c : Int) (w : World) (hc : Zb2 c = true) (ht : TabW w) : Calls Tryz.prog 90 #[.int .i64 c] w fun e w' => e = .returned (.tuple #[.string (Z2B c), .int .i64 0]) /\ Below w.1.size w w' := by
 have HR := Z0 (Z2l c w)
 rw [hc] at HR
 have hb : -1000000000000000 <= c /\ c <= 1000000000000000 := by
  unfold Zb2 Z4T at hc
  rw [ZF, Kab, Kab] at hc
  exact hc
 clear hc
 obtain ⟨x, hx⟩ : ∃ x : Int, x = (c.natAbs : Int) := ⟨_, rfl⟩
 have pD : 0 <= x /\ x <= 1000000000000000 := by omega
 obtain ⟨m0, m1⟩ : 0 <= x % 100 /\ x % 100 <= 1000000000000000 := by omega
 obtain ⟨q0, q1⟩ : 0 <= x / 100 /\ x / 100 <= 1000000000000000 := by omega
 have h1 := fun (W : World) (h : TabW W) => Z2E (x % 100) W (by omega) (by omega) h
 have h2 := fun (W : World) (h : TabW W) => Z2E (x / 100) W (by omega) (by omega) h
 have z1 : (Z1d (x % 100)).size <= 20 := Z0v _ (by omega) (by omega)
 have z2 : (Z1d (x / 100)).size <= 20 := Z0v _ (by omega) (by omega)
 have hm : Z2B c = (if c < 0 then ⟨#[45]⟩ else ⟨#[]⟩) ++ Z1d (x / 100) ++ ⟨#[46]⟩ ++ ZiQ (Z1d (x % 100)) := by unfold Z2B; rw [hx]
 generalize Z1d (x % 100) = rb at h1 z1 hm
 generalize Z1d (x / 100) = qb at h2 z2 hm
 have HM := Z0 hm
 have H1 := Z0 h1
 have H2 := Z0 h2
 have HT := Z0 ht
 clear h1 h2 ht hm m0 m1 q0 q1
 by_cases hr : rb.size < 2
 all_goals
  by_cases h : c < 0
  ·obtain rfl : c = -x := by omega
   have pC : 0 < x := by omega
   rw [if_pos h] at HM
   clear hx h hb
   go_enter Tryz.func90, Tryz.ntmps90
   go_wp2_with (first
    | (go_at_call 88; refine HR.out.mono ?_; rintro e w1 ⟨rfl, rfl⟩)
    | (go_at_call 48; with_reducible refine (H2.out _ (HT.out.below pA)).mono ?_; rintro e w3 ⟨rfl, pB⟩)
    | (go_at_call 48; with_reducible refine (H1.out _ HT.out).mono ?_; rintro e w2 ⟨rfl, pA⟩))
   go_ret2
   refine ⟨?_, Z01 pA pA.size pB⟩
   rw [HM.out]
   unfold ZiQ
   first | rw [if_pos hr] | rw [if_neg hr]
   rfl
  ·obtain rfl : c = x := by omega
   have pC : ¬ c < 0 := h
   rw [if_neg h] at HM
   clear hx h hb
   go_enter Tryz.func90, Tryz.ntmps90
   go_wp2_with (first
    | (go_at_call 88; refine HR.out.mono ?_; rintro e w1 ⟨rfl, rfl⟩)
    | (go_at_call 48; with_reducible refine (H2.out _ (HT.out.below pA)).mono ?_; rintro e w3 ⟨rfl, pB⟩)
    | (go_at_call 48; with_reducible refine (H1.out _ HT.out).mono ?_; rintro e w2 ⟨rfl, pA⟩))
   go_ret2
   refine ⟨?_, Z01 pA pA.size pB⟩
   rw [HM.out]
   unfold ZiQ
   first | rw [if_pos hr] | rw [if_neg hr]
   rfl
end Go.Proofs.YtlgajongmkhcnaaGreatDoor
