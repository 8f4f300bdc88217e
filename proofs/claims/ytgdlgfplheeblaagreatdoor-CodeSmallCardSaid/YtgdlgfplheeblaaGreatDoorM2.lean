/-
  The reference of check digits at the system Perm: turn, product, Passes.
-/
import Derived.Test.YtgdlgfplheeblaaGreatDoorM1
namespace Go.Proofs.YtgdlgfplheeblaaGreatDoor
open Go.RowKit
set_option linter.unusedVariables false
set_option maxRecDepth 100000
theorem turn_any (x : Nat) (w : World) (h : x < 10) : Calls Tryz.prog 124 #[.int .i64 (x : Nat)] w fun e w' => e = .returned (.int .i64 (turns 1 x : Nat)) ∧ w = w' := by
  have h10 : x = 0 ∨ x = 1 ∨ x = 2 ∨ x = 3 ∨ x = 4 ∨ x = 5 ∨ x = 6 ∨ x = 7 ∨ x = 8 ∨ x = 9 := by omega
  rcases h10 with rfl | rfl | rfl | rfl | rfl | rfl | rfl | rfl | rfl | rfl
  all_goals
    go_enter Tryz.func124, Tryz.ntmps124
    go_wp2
    go_ret
    exact ⟨rfl, rfl⟩
def prodR (x y : Nat) : Nat := if x < 5 then (if y < 5 then (x + y) % 5 else 5 + (x + y) % 5) else (if y < 5 then 5 + (x + 5 - y) % 5 else (x + 5 - y) % 5)
theorem prodR_times {x y : Nat} (hx : x < 10) (hy : y < 10) : prodR x y = times x y := by
  have h : (List.range 10).all (fun x => (List.range 10).all fun y => decide (prodR x y = times x y)) = true := by decide +kernel
  exact of_decide_eq_true (ten_all (ten_all h hx) hy)
theorem product_any (x y : Nat) (w : World) (hx : x < 10) (hy : y < 10) : Calls Tryz.prog 125 #[.int .i64 (x : Nat), .int .i64 (y : Nat)] w fun e w' => e = .returned (.int .i64 (times x y : Nat)) ∧ w = w' := by
  rw [← prodR_times hx hy]
  have HP : Hid (prodR x y = if x < 5 then (if y < 5 then (x + y) % 5 else 5 + (x + y) % 5) else (if y < 5 then 5 + (x + 5 - y) % 5 else (x + 5 - y) % 5)) := rfl
  have bx : (x : Int) ≤ 9 := by omega
  have bx0 : (0 : Int) ≤ (x : Int) := by omega
  have by0 : (0 : Int) ≤ (y : Int) := by omega
  have by9 : (y : Int) ≤ 9 := by omega
  by_cases h1 : x < 5
  · have d1 : decide ((x : Int) < 5) = true := decide_eq_true (by omega)
    by_cases h2 : y < 5
    · have d2 : decide ((y : Int) < 5) = true := decide_eq_true (by omega)
      have HV : Hid ((prodR x y : Int) = ((x : Int) + (y : Int)) % 5) := by
        show (prodR x y : Int) = _
        rw [HP.out, if_pos h1, if_pos h2]; omega
      clear h1 h2 hx hy HP
      go_enter Tryz.func125, Tryz.ntmps125
      go_wp2
      go_ret
      exact ⟨by rw [HV.out]; rfl, rfl⟩
    · have d2 : decide ((y : Int) < 5) = false := decide_eq_false (by omega)
      have HV : Hid ((prodR x y : Int) = 5 + ((x : Int) + (y : Int)) % 5) := by
        show (prodR x y : Int) = _
        rw [HP.out, if_pos h1, if_neg h2]; omega
      clear h1 h2 hx hy HP
      go_enter Tryz.func125, Tryz.ntmps125
      go_wp2
      go_ret
      exact ⟨by rw [HV.out]; rfl, rfl⟩
  · have d1 : decide ((x : Int) < 5) = false := decide_eq_false (by omega)
    have hx5 : (5 : Int) ≤ (x : Int) := by omega
    by_cases h2 : y < 5
    · have d2 : decide ((y : Int) < 5) = true := decide_eq_true (by omega)
      have HV : Hid ((prodR x y : Int) = 5 + ((x : Int) + 5 - (y : Int)) % 5) := by
        show (prodR x y : Int) = _
        rw [HP.out, if_neg h1, if_pos h2]; omega
      clear h1 h2 hx hy HP
      go_enter Tryz.func125, Tryz.ntmps125
      go_wp2
      go_ret
      exact ⟨by rw [HV.out]; rfl, rfl⟩
    · have d2 : decide ((y : Int) < 5) = false := decide_eq_false (by omega)
      have HV : Hid ((prodR x y : Int) = ((x : Int) + 5 - (y : Int)) % 5) := by
        show (prodR x y : Int) = _
        rw [HP.out, if_neg h1, if_neg h2]; omega
      clear h1 h2 hx hy HP
      go_enter Tryz.func125, Tryz.ntmps125
      go_wp2
      go_ret
      exact ⟨by rw [HV.out]; rfl, rfl⟩
theorem turns_zero {v : Nat} (h : v < 10) : turns 0 v = v := by
  have hh : (List.range 10).all (fun v => decide (turns 0 v = v)) = true := by decide +kernel
  exact of_decide_eq_true (ten_all hh h)
theorem turns_next {i v : Nat} (h : v < 10) : turns 1 (turns (i % 8) v) = turns ((i + 1) % 8) v := by
  have hh : (List.range 8).all (fun i => (List.range 10).all fun v => decide (turns 1 (turns i v) = turns ((i + 1) % 8) v)) = true := by decide +kernel
  have := of_decide_eq_true (ten_all (List.all_eq_true.1 hh (i % 8) (List.mem_range.2 (Nat.mod_lt _ (by decide)))) h)
  rw [this]
  congr 1
  omega
set_option maxHeartbeats 4000000 in
theorem passes16_any (vs : List Nat) (v : Value) (w : World) (hr : RdNats w v vs) (hv : ∀ x ∈ vs, x < 10) (hl : vs.length ≤ 1000) :
    Calls Tryz.prog 69 #[.int .u8 4, .slice none 0 0, v] w fun e w' => e = .returned (.bool (permB vs)) ∧ w = w' := by
  obtain ⟨a, cap, rfl, hc⟩ := hr
  have HC := Lib.hid hc
  have HV := Lib.hid hv
  have hfull : vs.take vs.length = vs := List.take_of_length_le (Nat.le_refl _)
  have HF := Lib.hid hfull
  clear hc hv hfull
  go_enter Tryz.func69, Tryz.ntmps69
  go_wp2_with fail
  go_loop [7, 8] (fun o i => ∃ k : Nat, k ≤ vs.length ∧ i = .int .i64 k ∧ o = .int .i64 (prodFrom 0 0 (vs.take k) : Nat)) (fun _ i => vs.length - (intOf i).toNat)
  case atStart => exact ⟨0, Nat.zero_le _, rfl, rfl⟩
  case round =>
    obtain ⟨k, hk, rfl, rfl⟩ := hrel
    by_cases hlt : k < vs.length
    · obtain ⟨g, off, rfl, hg, hcc⟩ := HC.out (by omega)
      have c1 := hcc k hlt
      have hx := HV.out _ (List.getElem_mem hlt)
      have hp := prod_lt (vs.take k) 0 0 (by decide) (fun x h => HV.out x (List.mem_of_mem_take h))
      have HS := Lib.hid (prod_snoc vs k hlt)
      generalize vs[k] = x at c1 hx HS
      generalize prodFrom 0 0 (vs.take k) = acc at hp HS ⊢
      have hd : decide ((k : Int) < (vs.length : Int)) = true := decide_eq_true (by omega)
      have hd2 : decide (k < vs.length) = true := decide_eq_true hlt
      clear hcc HC HV
      go_wp2_with fail
      go_loop [9, 10] (fun y i => ∃ n : Nat, n ≤ k ∧ i = .int .i64 n ∧ y = .int .i64 (turns (n % 8) x : Nat)) (fun _ i => k - (intOf i).toNat)
      case atStart => exact ⟨0, Nat.zero_le _, rfl, by rw [Nat.zero_mod, turns_zero hx]⟩
      case round =>
        obtain ⟨n, hn, rfl, rfl⟩ := hrel
        have ht := turns_lt (Nat.mod_lt n (by decide : 0 < 8)) hx
        by_cases hnk : n < k
        · have HT := Lib.hid (turns_next (i := n) hx)
          have HC1 : Hid (∀ W, Calls Tryz.prog 124 #[.int .i64 (turns (n % 8) x : Nat)] W fun e w' => e = .returned (.int .i64 (turns 1 (turns (n % 8) x) : Nat)) ∧ W = w') := fun W => turn_any _ W ht
          generalize turns (n % 8) x = y at HT HC1 ht ⊢
          go_wp2_with fail
          refine (HC1.out _).mono ?_
          rintro e w3 ⟨rfl, rfl⟩
          go_wp2_with fail
          go_round
          case rel => exact ⟨n + 1, by omega, by go_num, by rw [HT.out]⟩
          case measure => simp [intOf]; omega
        · obtain rfl : n = k := by omega
          have HC1 : Hid (∀ W, Calls Tryz.prog 125 #[.int .i64 (acc : Nat), .int .i64 (turns (n % 8) x : Nat)] W fun e w' => e = .returned (.int .i64 (times acc (turns (n % 8) x) : Nat)) ∧ W = w') := fun W => product_any _ _ W hp ht
          have HS2 : Hid (prodFrom 0 0 (vs.take (n + 1)) = times acc (turns (n % 8) x)) := HS.out
          clear HS
          generalize times acc (turns (n % 8) x) = z at HC1 HS2
          generalize turns (n % 8) x = y at HC1 ht ⊢
          go_wp2_with fail
          refine (HC1.out _).mono ?_
          rintro e w3 ⟨rfl, rfl⟩
          go_wp2_with fail
          go_round
          case rel => exact ⟨n + 1, by omega, by go_num, by rw [HS2.out]⟩
          case measure => simp [intOf]; omega
    · obtain rfl : k = vs.length := by omega
      rw [HF.out]
      have HP : Hid (permB vs = decide (prodFrom 0 0 vs = 0)) := rfl
      generalize prodFrom 0 0 vs = acc at HP ⊢
      go_wp2_with fail
      go_ret
      have e : ((acc : Int) == 0) = decide (acc = 0) := by rw [Bool.eq_iff_iff, beq_iff_eq, decide_eq_true_eq]; omega
      exact ⟨by show Ending.returned (Value.bool ((acc : Int) == 0)) = _; rw [HP.out, e], rfl⟩
end Go.Proofs.YtgdlgfplheeblaaGreatDoor
