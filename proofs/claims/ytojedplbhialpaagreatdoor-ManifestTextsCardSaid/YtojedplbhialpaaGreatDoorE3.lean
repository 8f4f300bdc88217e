/-
  The reference's numerals and amounts: digits, Text of letterbagref02.
-/
import Derived.Test.YtojedplbhialpaaGreatDoorGV
import Derived.Test.YtojedplbhialpaaGreatDoorGR
import Derived.Lib.QuietBelow
import Derived.BigQuiet
namespace Go.Proofs.YtojedplbhialpaaGreatDoor
open Go.RowKit Go.Sort
set_option linter.unusedVariables false
set_option maxRecDepth 100000
-- T0
theorem dig_byte {u : Nat} (h : u < 10) : (((UInt8.ofNat (48 + u)).toNat : Nat) : Int) = 48 + (u : Int) := by rw [UInt8.toNat_ofNat']; omega
theorem dig_wrap {u : Nat} (h : u < 10) : IntKind.u8.wrap (48 + (u : Int)) = (((UInt8.ofNat (48 + u)).toNat : Nat) : Int) := by rw [IntWalk.u8_in _ (by omega), dig_byte h]
set_option maxHeartbeats 4000000 in
theorem rdig_nonneg (m : Nat) : ∀ (u : Nat) (w : World), u ≤ m → u ≤ 9223372036854775807 → Calls Tryz.prog 85 #[.int .i64 (u : Int)] w fun e w' => e = .returned (.string (itoaB (u : Int))) ∧ Below w.heap.size w w' := by
  induction m using Nat.strongRecOn with
  | _ m ih =>
    intro u w hm hu
    by_cases h : u < 10
    · rw [itoaB_small h]
      have hwr := dig_wrap h
      have hk := mark_conv w [UInt8.ofNat (48 + u)] #[.int .u8 ((UInt8.ofNat (48 + u)).toNat : Int)] rfl 1 rfl
      generalize UInt8.ofNat (48 + u) = b at hwr hk ⊢
      have d1 : decide ((u : Int) < 0) = false := decide_eq_false (by omega)
      have d2 : decide ((u : Int) < 10) = true := decide_eq_true (by omega)
      clear ih hm
      go_enter Tryz.func85, Tryz.ntmps85
      go_wp2_with fail
      go_ret
      exact ⟨rfl, (Below.refl _ w).alloc (Nat.le_refl _) _⟩
    · have HI := Lib.hid (itoaB_big h)
      have H1 := Lib.hid (fun W => ih (m - 1) (by omega) (u / 10) W (by omega) (by omega))
      have H2 := Lib.hid (fun W => ih (m - 1) (by omega) (u % 10) W (by omega) (by omega))
      have z1 : (itoaB ((u / 10 : Nat) : Int)).size ≤ 20 := itoaB_size _ (by omega) (by omega)
      have z2 : (itoaB ((u % 10 : Nat) : Int)).size ≤ 20 := itoaB_size _ (by omega) (by omega)
      have e1 : Int.tdiv (u : Int) 10 = ((u / 10 : Nat) : Int) := by rw [Int.tdiv_eq_ediv_of_nonneg (by omega)]; rfl
      have e2 : Int.tmod (u : Int) 10 = ((u % 10 : Nat) : Int) := by rw [Int.tmod_eq_emod_of_nonneg (by omega)]; rfl
      have e3 : (u : Int) / 10 = ((u / 10 : Nat) : Int) := rfl
      have e4 : (u : Int) % 10 = ((u % 10 : Nat) : Int) := rfl
      have e5 : IntKind.i64.wrap ((u / 10 : Nat) : Int) = ((u / 10 : Nat) : Int) := IntWalk.i64_in _ (by omega)
      generalize itoaB ((u / 10 : Nat) : Int) = s1 at HI H1 z1
      generalize itoaB ((u % 10 : Nat) : Int) = s2 at HI H2 z2
      generalize itoaB (u : Int) = s at HI ⊢
      generalize ((u / 10 : Nat) : Int) = q at H1 e1 e3 e5
      generalize ((u % 10 : Nat) : Int) = r at H2 e2 e4
      have d1 : decide ((u : Int) < 0) = false := decide_eq_false (by omega)
      have d2 : decide ((u : Int) < 10) = false := decide_eq_false (by omega)
      clear ih hm
      go_enter Tryz.func85, Tryz.ntmps85
      go_wp2_with (first
        | (go_at_call 85; with_reducible refine (H2.out _).mono ?_; rintro e w2 ⟨rfl, hb2⟩)
        | (go_at_call 85; with_reducible refine (H1.out _).mono ?_; rintro e w1 ⟨rfl, hb1⟩))
      go_ret
      exact ⟨by rw [HI.out]; rfl, below_c hb1 hb1.size hb2⟩
set_option maxHeartbeats 4000000 in
theorem rdig_neg (m : Nat) : ∀ (u : Nat) (w : World), u ≤ m → 1 ≤ u → u ≤ 9223372036854775808 → Calls Tryz.prog 85 #[.int .i64 (-(u : Int))] w fun e w' => e = .returned (.string (itoaB (-(u : Int)))) ∧ Below w.heap.size w w' := by
  induction m using Nat.strongRecOn with
  | _ m ih =>
    intro u w hm h1 hu
    by_cases h : u < 10
    · have HI := Lib.hid (itoaB_neg h1)
      have H1 := Lib.hid (fun W => rdig_nonneg u u W (Nat.le_refl _) (by omega))
      have z1 : (itoaB (u : Int)).size ≤ 20 := itoaB_size _ (by omega) (by omega)
      generalize itoaB (u : Int) = s1 at HI H1 z1
      generalize itoaB (-(u : Int)) = s at HI ⊢
      have d1 : decide (-(u : Int) < 0) = true := decide_eq_true (by omega)
      have d2 : decide (-10 < -(u : Int)) = true := decide_eq_true (by omega)
      have d3 : decide ((u : Int) < 10) = true := decide_eq_true (by omega)
      have d4 : decide (0 < (u : Int)) = true := decide_eq_true (by omega)
      have e5 : IntKind.i64.wrap (u : Int) = (u : Int) := IntWalk.i64_in _ (by omega)
      clear ih hm
      go_enter Tryz.func85, Tryz.ntmps85
      go_wp2_with (go_at_call 85; with_reducible refine (H1.out _).mono ?_; rintro e w1 ⟨rfl, hb1⟩)
      go_ret
      exact ⟨by rw [HI.out]; rfl, hb1⟩
    · have HI := Lib.hid (itoaB_neg_big h)
      have H1 := Lib.hid (fun W => ih (m - 1) (by omega) (u / 10) W (by omega) (by omega) (by omega))
      have H2 := Lib.hid (fun W => rdig_nonneg (u % 10) (u % 10) W (Nat.le_refl _) (by omega))
      have z1 : (itoaB (-((u / 10 : Nat) : Int))).size ≤ 20 := itoaB_size _ (by omega) (by omega)
      have z2 : (itoaB ((u % 10 : Nat) : Int)).size ≤ 20 := itoaB_size _ (by omega) (by omega)
      have e1 : Int.tdiv (-(u : Int)) 10 = -((u / 10 : Nat) : Int) := by rw [Int.neg_tdiv, Int.tdiv_eq_ediv_of_nonneg (by omega)]; rfl
      have e2 : Int.tmod (-(u : Int)) 10 = -((u % 10 : Nat) : Int) := by rw [Int.neg_tmod, Int.tmod_eq_emod_of_nonneg (by omega)]; rfl
      have b1 : 1 ≤ u / 10 ∧ u / 10 ≤ 922337203685477580 := by omega
      have b2 : u % 10 ≤ 9 := by omega
      generalize itoaB (-((u / 10 : Nat) : Int)) = s1 at HI H1 z1
      generalize itoaB ((u % 10 : Nat) : Int) = s2 at HI H2 z2
      generalize itoaB (-(u : Int)) = s at HI ⊢
      generalize u / 10 = q at H1 e1 b1
      generalize u % 10 = r at H2 e2 b2
      have e3 : IntKind.i64.wrap (-(q : Int)) = -(q : Int) := IntWalk.i64_in _ (by omega)
      have e4 : IntKind.i64.wrap (r : Int) = (r : Int) := IntWalk.i64_in _ (by omega)
      have d1 : decide (-(u : Int) < 0) = true := decide_eq_true (by omega)
      have d2 : decide (-10 < -(u : Int)) = false := decide_eq_false (by omega)
      have d3 : decide ((u : Int) < 10) = false := decide_eq_false (by omega)
      have d4 : decide (0 < (u : Int)) = true := decide_eq_true (by omega)
      clear ih hm
      go_enter Tryz.func85, Tryz.ntmps85
      go_wp2_with (first
        | (go_at_call 85; with_reducible refine (H2.out _).mono ?_; rintro e w2 ⟨rfl, hb2⟩)
        | (go_at_call 85; with_reducible refine (H1.out _).mono ?_; rintro e w1 ⟨rfl, hb1⟩))
      go_ret
      exact ⟨by rw [HI.out]; rfl, below_c hb1 hb1.size hb2⟩
theorem rdig_any (n : Int) (w : World) (h : I64 n) : Calls Tryz.prog 85 #[.int .i64 n] w fun e w' => e = .returned (.string (itoaB n)) ∧ Below w.heap.size w w' := by
  rcases Int.lt_or_le n 0 with h0 | h0
  · obtain ⟨u, rfl⟩ : ∃ u : Nat, n = -(u : Int) := ⟨n.natAbs, by omega⟩
    have := h.lo
    exact rdig_neg u u w (Nat.le_refl _) (by omega) (by omega)
  · obtain ⟨u, rfl⟩ : ∃ u : Nat, n = (u : Int) := ⟨n.toNat, by omega⟩
    have := h.hi
    exact rdig_nonneg u u w (Nat.le_refl _) (by omega)
theorem rmoney_right (c : Int) (w : World) : Calls Tryz.prog 193 #[.int .i64 c] w fun e w' => e = .returned (.bool (amtB c)) ∧ w = w' := by
  have e : amtB c = (decide (-1000000000000000 ≤ c) && decide (c ≤ 1000000000000000)) := rfl
  rw [e]
  by_cases h : -1000000000000000 ≤ c
  · have d1 : decide (-1000000000000000 ≤ c) = true := decide_eq_true h
    rw [d1]
    go_enter Tryz.func193, Tryz.ntmps193
    go_wp2
    go_ret
    exact ⟨by simp, rfl⟩
  · have d1 : decide (-1000000000000000 ≤ c) = false := decide_eq_false h
    rw [d1]
    go_enter Tryz.func193, Tryz.ntmps193
    go_wp2
    go_ret
    exact ⟨by simp, rfl⟩
def rmon (c : Int) : ByteArray × Int := if amtB c then (moneyB c, 0) else (⟨#[]⟩, 2)
set_option maxHeartbeats 8000000 in
theorem rmon_any (c : Int) (w : World) : Calls Tryz.prog 146 #[.int .i64 c] w fun e w' => e = .returned (.tuple #[.string (rmon c).1, .int .i64 (rmon c).2]) ∧ Below w.heap.size w w' := by
  have HR := Lib.hid (rmoney_right c)
  by_cases hc : amtB c = true
  · have hrm : rmon c = (moneyB c, 0) := by unfold rmon; rw [if_pos hc]
    rw [hrm]
    rw [hc] at HR
    have hb : -1000000000000000 ≤ c ∧ c ≤ 1000000000000000 := by
      unfold amtB maxCents at hc
      rw [Bool.and_eq_true, decide_eq_true_eq, decide_eq_true_eq] at hc
      exact hc
    obtain ⟨x, hx⟩ : ∃ x : Nat, c.natAbs = x := ⟨_, rfl⟩
    have hx0 : x ≤ 1000000000000000 := by omega
    have HM := Lib.hid (moneyB_ref c x hx)
    have hw1 := dig_wrap (u := x / 10 % 10) (by omega)
    have hw2 := dig_wrap (u := x % 10) (by omega)
    have z0 : (itoaB ((x / 100 : Nat) : Int)).size ≤ 20 := itoaB_size _ (by omega) (by omega)
    have e1 : Int.tdiv (x : Int) 10 = ((x / 10 : Nat) : Int) := by rw [Int.tdiv_eq_ediv_of_nonneg (by omega)]; rfl
    have e1' : (x : Int) / 10 = ((x / 10 : Nat) : Int) := rfl
    have e2 : Int.tmod ((x / 10 : Nat) : Int) 10 = ((x / 10 % 10 : Nat) : Int) := by rw [Int.tmod_eq_emod_of_nonneg (by omega)]; rfl
    have e2' : ((x / 10 : Nat) : Int) % 10 = ((x / 10 % 10 : Nat) : Int) := rfl
    have e3 : Int.tmod (x : Int) 10 = ((x % 10 : Nat) : Int) := by rw [Int.tmod_eq_emod_of_nonneg (by omega)]; rfl
    have e3' : (x : Int) % 10 = ((x % 10 : Nat) : Int) := rfl
    have e4 : Int.tdiv (x : Int) 100 = ((x / 100 : Nat) : Int) := by rw [Int.tdiv_eq_ediv_of_nonneg (by omega)]; rfl
    have e4' : (x : Int) / 100 = ((x / 100 : Nat) : Int) := rfl
    have b1 : x / 10 % 10 ≤ 9 := by omega
    have b2 : x % 10 ≤ 9 := by omega
    have b3 : x / 100 ≤ 10000000000000 := by omega
    have b4 : x / 10 ≤ 100000000000000 := by omega
    generalize UInt8.ofNat (48 + x / 10 % 10) = y1 at hw1 HM
    generalize UInt8.ofNat (48 + x % 10) = y2 at hw2 HM
    generalize x / 10 % 10 = d1 at hw1 b1 e2 e2'
    generalize x % 10 = d2 at hw2 b2 e3 e3'
    generalize x / 100 = q at z0 e4 e4' b3 HM
    generalize x / 10 = q1 at e1 e1' e2 e2' b4
    have w1 : IntKind.i64.wrap (q1 : Int) = (q1 : Int) := IntWalk.i64_in _ (by omega)
    have w2 : IntKind.i64.wrap (q : Int) = (q : Int) := IntWalk.i64_in _ (by omega)
    have HK := Lib.hid (fun W => mark_conv W [y1, y2] #[.int .u8 (y1.toNat : Int), .int .u8 (y2.toNat : Int)] rfl 2 rfl)
    have hk := HK.out w
    clear hc hrm
    by_cases h0 : c < 0
    · obtain rfl : c = -(x : Int) := by omega
      have hx1 : 0 < x := by omega
      have HSG : Hid (signB (-(x : Int)) = ⟨#[45]⟩) := by show _ = _; unfold signB; rw [if_pos h0]
      have d0 : decide (-(x : Int) < 0) = true := decide_eq_true (by omega)
      have d0' : decide (0 < (x : Int)) = true := decide_eq_true (by omega)
      have w3 : IntKind.i64.wrap (x : Int) = (x : Int) := IntWalk.i64_in _ (by omega)
      clear hx h0 hb
      go_enter Tryz.func146, Tryz.ntmps146
      go_wp2_with (go_at_call 193; refine (HR.out _).mono ?_; rintro e w1' ⟨rfl, rfl⟩)
      go_loopw [5, 6] (fun s n wr => ∃ (k : Nat) (sb : ByteArray), n = .int .i64 k ∧ s = .string sb ∧ k ≤ 10000000000000 ∧ Hid (itoaB (q : Int) ++ (⟨#[46]⟩ ++ ⟨#[y1, y2]⟩) = itoaB (k : Int) ++ sb) ∧ sb.size ≤ 23 ∧ Below w.heap.size w wr) (fun _ n _ => (intOf n).toNat)
      case atStart => exact ⟨q, _, rfl, rfl, b3, rfl, by rw [ByteArray.size_append]; show 1 + 2 ≤ 23; decide, (Below.refl _ w).alloc (Nat.le_refl _) _⟩
      case round =>
        obtain ⟨k, sb, rfl, rfl, hk2, HE, hz, hB⟩ := hrel
        clear hk e1 e1' e2 e2' e3 e3' e4 e4' w1 w2 hw1 hw2 b1 b2 b3 b4
        by_cases hlt : 9 < k
        · have HS := Lib.hid (money_step (n := k) (by omega) sb)
          have hw3 := dig_wrap (u := k % 10) (by omega)
          have f1 : Int.tdiv (k : Int) 10 = ((k / 10 : Nat) : Int) := by rw [Int.tdiv_eq_ediv_of_nonneg (by omega)]; rfl
          have f1' : (k : Int) / 10 = ((k / 10 : Nat) : Int) := rfl
          have f2 : Int.tmod (k : Int) 10 = ((k % 10 : Nat) : Int) := by rw [Int.tmod_eq_emod_of_nonneg (by omega)]; rfl
          have f2' : (k : Int) % 10 = ((k % 10 : Nat) : Int) := rfl
          have g1 : k / 10 ≤ 1000000000000 ∧ k / 10 < k := by omega
          have g2 : k % 10 ≤ 9 := by omega
          generalize UInt8.ofNat (48 + k % 10) = y at hw3 HS
          generalize hkq : k / 10 = kq at f1 f1' g1 HS
          clear hkq
          generalize k % 10 = kr at f2 f2' g2 hw3
          have hk := mark_conv wr [y] #[.int .u8 (y.toNat : Int)] rfl 1 rfl
          have w1 : IntKind.i64.wrap (kq : Int) = (kq : Int) := IntWalk.i64_in _ (by omega)
          have d9 : decide (9 < (k : Int)) = true := decide_eq_true (by omega)
          have hz1 : (⟨#[y]⟩ : ByteArray).size = 1 := rfl
          have HZ : Hid ((⟨#[y]⟩ ++ sb : ByteArray).size ≤ 23) := by
            show _ ≤ _
            have h1 : (itoaB (kq : Int) ++ (⟨#[y]⟩ ++ sb)).size = (itoaB (q : Int) ++ (⟨#[46]⟩ ++ ⟨#[y1, y2]⟩)).size := by rw [HE.out, HS.out]
            rw [ByteArray.size_append, ByteArray.size_append, ByteArray.size_append, ByteArray.size_append] at h1
            rw [ByteArray.size_append]
            have e5 : (⟨#[46]⟩ : ByteArray).size = 1 := rfl
            have e6 : (⟨#[y1, y2]⟩ : ByteArray).size = 2 := rfl
            omega
          go_wp2_with fail
          go_roundw
          case rel => exact ⟨kq, _, rfl, rfl, by omega, by show _ = _; rw [HE.out, HS.out], HZ.out, hB.alloc hB.size _⟩
          case measure => simp [intOf]; omega
        · have hw3 := dig_wrap (u := k) (by omega)
          have HS := Lib.hid (itoaB_small (u := k) (by omega))
          generalize UInt8.ofNat (48 + k) = y at hw3 HS
          have hk := mark_conv wr [y] #[.int .u8 (y.toNat : Int)] rfl 1 rfl
          have d9 : decide (9 < (k : Int)) = false := decide_eq_false (by omega)
          have hz1 : (⟨#[y]⟩ : ByteArray).size = 1 := rfl
          go_wp2_with fail
          go_ret2
          refine ⟨?_, hB.alloc hB.size _⟩
          rw [HM.out, HSG.out, HE.out, HS.out]
          try rw [nil_app]
          try rw [ba_assoc]
          rfl
    · obtain rfl : c = (x : Int) := by omega
      have HSG : Hid (signB (x : Int) = ⟨#[]⟩) := by show _ = _; unfold signB; rw [if_neg h0]
      have d0 : decide ((x : Int) < 0) = false := decide_eq_false h0
      clear hx h0 hb
      go_enter Tryz.func146, Tryz.ntmps146
      go_wp2_with (go_at_call 193; refine (HR.out _).mono ?_; rintro e w1' ⟨rfl, rfl⟩)
      go_loopw [5, 6] (fun s n wr => ∃ (k : Nat) (sb : ByteArray), n = .int .i64 k ∧ s = .string sb ∧ k ≤ 10000000000000 ∧ Hid (itoaB (q : Int) ++ (⟨#[46]⟩ ++ ⟨#[y1, y2]⟩) = itoaB (k : Int) ++ sb) ∧ sb.size ≤ 23 ∧ Below w.heap.size w wr) (fun _ n _ => (intOf n).toNat)
      case atStart => exact ⟨q, _, rfl, rfl, b3, rfl, by rw [ByteArray.size_append]; show 1 + 2 ≤ 23; decide, (Below.refl _ w).alloc (Nat.le_refl _) _⟩
      case round =>
        obtain ⟨k, sb, rfl, rfl, hk2, HE, hz, hB⟩ := hrel
        clear hk e1 e1' e2 e2' e3 e3' e4 e4' w1 w2 hw1 hw2 b1 b2 b3 b4
        by_cases hlt : 9 < k
        · have HS := Lib.hid (money_step (n := k) (by omega) sb)
          have hw3 := dig_wrap (u := k % 10) (by omega)
          have f1 : Int.tdiv (k : Int) 10 = ((k / 10 : Nat) : Int) := by rw [Int.tdiv_eq_ediv_of_nonneg (by omega)]; rfl
          have f1' : (k : Int) / 10 = ((k / 10 : Nat) : Int) := rfl
          have f2 : Int.tmod (k : Int) 10 = ((k % 10 : Nat) : Int) := by rw [Int.tmod_eq_emod_of_nonneg (by omega)]; rfl
          have f2' : (k : Int) % 10 = ((k % 10 : Nat) : Int) := rfl
          have g1 : k / 10 ≤ 1000000000000 ∧ k / 10 < k := by omega
          have g2 : k % 10 ≤ 9 := by omega
          generalize UInt8.ofNat (48 + k % 10) = y at hw3 HS
          generalize hkq : k / 10 = kq at f1 f1' g1 HS
          clear hkq
          generalize k % 10 = kr at f2 f2' g2 hw3
          have hk := mark_conv wr [y] #[.int .u8 (y.toNat : Int)] rfl 1 rfl
          have w1 : IntKind.i64.wrap (kq : Int) = (kq : Int) := IntWalk.i64_in _ (by omega)
          have d9 : decide (9 < (k : Int)) = true := decide_eq_true (by omega)
          have hz1 : (⟨#[y]⟩ : ByteArray).size = 1 := rfl
          have HZ : Hid ((⟨#[y]⟩ ++ sb : ByteArray).size ≤ 23) := by
            show _ ≤ _
            have h1 : (itoaB (kq : Int) ++ (⟨#[y]⟩ ++ sb)).size = (itoaB (q : Int) ++ (⟨#[46]⟩ ++ ⟨#[y1, y2]⟩)).size := by rw [HE.out, HS.out]
            rw [ByteArray.size_append, ByteArray.size_append, ByteArray.size_append, ByteArray.size_append] at h1
            rw [ByteArray.size_append]
            have e5 : (⟨#[46]⟩ : ByteArray).size = 1 := rfl
            have e6 : (⟨#[y1, y2]⟩ : ByteArray).size = 2 := rfl
            omega
          go_wp2_with fail
          go_roundw
          case rel => exact ⟨kq, _, rfl, rfl, by omega, by show _ = _; rw [HE.out, HS.out], HZ.out, hB.alloc hB.size _⟩
          case measure => simp [intOf]; omega
        · have hw3 := dig_wrap (u := k) (by omega)
          have HS := Lib.hid (itoaB_small (u := k) (by omega))
          generalize UInt8.ofNat (48 + k) = y at hw3 HS
          have hk := mark_conv wr [y] #[.int .u8 (y.toNat : Int)] rfl 1 rfl
          have d9 : decide (9 < (k : Int)) = false := decide_eq_false (by omega)
          have hz1 : (⟨#[y]⟩ : ByteArray).size = 1 := rfl
          go_wp2_with fail
          go_ret2
          refine ⟨?_, hB.alloc hB.size _⟩
          rw [HM.out, HSG.out, HE.out, HS.out]
          try rw [nil_app]
          try rw [ba_assoc]
          rfl
  · have hrm : rmon c = (⟨#[]⟩, 2) := by unfold rmon; rw [if_neg hc]
    rw [Bool.not_eq_true] at hc
    rw [hrm]
    rw [hc] at HR
    clear hrm hc
    go_enter Tryz.func146, Tryz.ntmps146
    go_wp2_with (go_at_call 193; refine (HR.out _).mono ?_; rintro e w1' ⟨rfl, rfl⟩)
    go_ret2
    exact ⟨rfl, Below.refl _ _⟩
end Go.Proofs.YtojedplbhialpaaGreatDoor
