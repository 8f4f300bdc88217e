/-
  letterbaglaw27.few at a scheme alone.
-/
import Derived.Test.YtojedplbhialpaaGreatDoorE1
import Derived.Test.YtojedplbhialpaaGreatDoorE5
import Derived.Test.YtojedplbhialpaaGreatDoorE6
namespace Go.Proofs.YtojedplbhialpaaGreatDoor
open Go.RowKit Go.Sort
set_option linter.unusedVariables false
set_option maxRecDepth 100000
def few27B (ls : List Lev) : Bool := decide (sumTo ls (min ls.length 10) ≤ 300) && decide (ls.length ≤ 10)
theorem sumTo_leL {ls : List Lev} {m : Nat} (hf : ∀ l ∈ ls, l.labs.length ≤ m) : ∀ k, sumTo ls k ≤ k * m
  | 0 => by simp [sumTo]
  | k + 1 => by
    have ih := sumTo_leL hf k
    by_cases h : k < ls.length
    · rw [sumTo_succ ls k h, Nat.succ_mul]
      have := hf _ (List.getElem_mem h)
      omega
    · have : sumTo ls (k + 1) = sumTo ls k := by unfold sumTo; rw [List.take_of_length_le (by omega), List.take_of_length_le (by omega)]
      rw [this, Nat.succ_mul]; omega
theorem few27_each {ls : List Lev} (h : few27B ls = true) : ls.length ≤ 10 ∧ ∀ l ∈ ls, l.labs.length ≤ 300 := by
  unfold few27B at h
  rw [Bool.and_eq_true, decide_eq_true_eq, decide_eq_true_eq] at h
  refine ⟨h.2, fun l hl => ?_⟩
  obtain ⟨i, hi, rfl⟩ := List.mem_iff_getElem.1 hl
  have h1 := sumTo_succ ls i hi
  have h2 := sumTo_mono ls (show i + 1 ≤ min ls.length 10 by omega)
  omega
theorem three_new {w W : World} {A B C : Obj} (h : W = ((w.alloc A).alloc B).alloc C) : W.heap[w.heap.size]? = some A ∧ W.heap[w.heap.size + 1]? = some B ∧ W.heap[w.heap.size + 1 + 1]? = some C ∧ Below w.heap.size w W := by
  obtain ⟨a1, a2, a3, a4⟩ := two_new (w := w) (A := A) (B := B) rfl
  subst h
  have b := (Below.refl ((w.alloc A).alloc B).heap.size ((w.alloc A).alloc B)).alloc (Nat.le_refl _) C
  refine ⟨blk_keep b a1, blk_keep b a2, ?_, a4.alloc a4.size _⟩
  have e : ((w.alloc A).alloc B).heap.size = w.heap.size + 1 + 1 := by simp
  rw [← e]
  exact alloc_new _ _
set_option maxHeartbeats 8000000 in
theorem few27_any (ls : List Lev) (v : Value) (w : World) (hr : RdLevs w v ls) (hb : ∀ l ∈ ls, l.labs.length ≤ 4398046511104) (hl : ls.length ≤ maxLen) :
    Calls Tryz.prog 22 #[.agg #[.slice none 0 0, .slice none 0 0], v, .agg #[.int .u8 0, .int .u8 0, .string ⟨#[]⟩, .slice none 0 0], .agg #[.slice none 0 0, .slice none 0 0, .slice none 0 0]] w fun e w' => e = .returned (.bool (few27B ls)) ∧ Below w.heap.size w w' := by
  obtain ⟨W0, hW0⟩ : ∃ W0, W0 = ((w.alloc (.cells #[.slice none 0 0, .slice none 0 0] 25)).alloc (.cells #[.int .u8 0, .int .u8 0, .string ⟨#[]⟩, .slice none 0 0] 29)).alloc (.cells #[.slice none 0 0, .slice none 0 0, .slice none 0 0] 39) := ⟨_, rfl⟩
  obtain ⟨t1, t2, t3, t4⟩ := three_new hW0
  replace hr := hr.below t4
  obtain ⟨a, cap, rfl, hc⟩ := hr
  have x0 := cell_of_row _ _ 0 _ _ _ t1
  have x1 := cell_of_row _ _ 1 _ _ _ t1
  have m3 := cell_of_row _ _ 3 _ _ _ t2
  have l0 := cell_of_row _ _ 0 _ _ _ t3
  have l1 := cell_of_row _ _ 1 _ _ _ t3
  have l2 := cell_of_row _ _ 2 _ _ _ t3
  have HC := Lib.hid hc
  have HBD := Lib.hid hb
  have HW0 := Lib.hid hW0
  have HT4 := Lib.hid t4
  unfold maxLen at hl
  clear hc hb t1 t2 t3 t4 hW0
  rw [HW0.out] at x0 x1 l0 l1 l2
  go_enter Tryz.func22, Tryz.ntmps22
  go_wp2_with fail
  rw [← HW0.out] at x0 x1 l0 l1 l2
  rw [← HW0.out]
  go_loop [9, 10] (fun s i => ∃ k : Nat, k ≤ ls.length ∧ k ≤ 10 ∧ i = .int .i64 k ∧ s = .int .i64 (sumTo ls k : Nat)) (fun _ i => ls.length - (intOf i).toNat)
  case atStart => exact ⟨0, Nat.zero_le _, Nat.zero_le _, rfl, rfl⟩
  case round =>
    obtain ⟨k, hk, hk10, rfl, rfl⟩ := hrel
    have hsb := sumTo_leL HBD.out k
    have hsb2 : sumTo ls k ≤ 43980465111040 := by omega
    have HEND : Hid (k = min ls.length 10 → few27B ls = (decide (((sumTo ls k : Nat) : Int) ≤ 300) && decide ((ls.length : Int) ≤ 10))) := fun e => by
      have h1 : decide (((sumTo ls k : Nat) : Int) ≤ 300) = decide (sumTo ls k ≤ 300) := by rw [Bool.eq_iff_iff]; simp; omega
      have h2 : decide ((ls.length : Int) ≤ 10) = decide (ls.length ≤ 10) := by rw [Bool.eq_iff_iff]; simp; omega
      unfold few27B
      rw [h1, h2, ← e]
    clear hsb
    by_cases hlt : k < ls.length
    · by_cases h10 : k < 10
      · obtain ⟨g, off, rfl, hg, hcc⟩ := HC.out (by omega)
        obtain ⟨sv, hlab, hat⟩ := hcc k hlt
        obtain ⟨t0, t1, t2, t3, t4⟩ := hat
        obtain ⟨la, lc, rfl, _⟩ := hlab
        have hll := HBD.out _ (List.getElem_mem hlt)
        have HS := Lib.hid (sumTo_succ ls k hlt)
        generalize ls[k].labs.length = m at t2 HS hll
        generalize sumTo ls k = sk at hsb2 HS ⊢
        have hd : decide ((k : Int) < (ls.length : Int)) = true := decide_eq_true (by omega)
        have hd2 : decide ((k : Int) < 10) = true := decide_eq_true (by omega)
        clear t0 t1 t3 t4 HC hcc HEND
        go_wp2_with fail
        go_round
        case rel => exact ⟨k + 1, by omega, by omega, by go_num, by rw [HS.out]; first | rfl | (congr 1; omega)⟩
        case measure => simp [intOf]; omega
      · obtain rfl : k = 10 := by omega
        have HE := Lib.hid (HEND.out (by omega))
        generalize sumTo ls 10 = sk at hsb2 HE ⊢
        have hd : decide ((10 : Int) < (ls.length : Int)) = true := decide_eq_true (by omega)
        have hd3 : decide ((ls.length : Int) ≤ 10) = false := decide_eq_false (by omega)
        rw [hd3, Bool.and_false] at HE
        clear HEND HC
        by_cases hs : sk ≤ 300
        · have hd4 : decide ((sk : Int) ≤ 300) = true := decide_eq_true (by omega)
          go_wp2_with fail
          go_loop [9, 11] (fun s i => s = .int .i64 (sk : Nat) ∧ i = .int .i64 0) (fun _ _ => 0)
          case atStart => exact ⟨rfl, rfl⟩
          case round =>
            obtain ⟨rfl, rfl⟩ := hrel
            go_wp2_with fail
            go_loop [9, 12] (fun s i => s = .int .i64 (sk : Nat) ∧ i = .int .i64 0) (fun _ _ => 0)
            case atStart => exact ⟨rfl, rfl⟩
            case round =>
              obtain ⟨rfl, rfl⟩ := hrel
              go_wp2_with fail
              go_loop [9, 13] (fun s i => s = .int .i64 (sk : Nat) ∧ i = .int .i64 0) (fun _ _ => 0)
              case atStart => exact ⟨rfl, rfl⟩
              case round =>
                obtain ⟨rfl, rfl⟩ := hrel
                go_wp2_with fail
                go_loop [9, 14] (fun s i => s = .int .i64 (sk : Nat) ∧ i = .int .i64 0) (fun _ _ => 0)
                case atStart => exact ⟨rfl, rfl⟩
                case round =>
                  obtain ⟨rfl, rfl⟩ := hrel
                  go_wp2_with fail
                  go_ret
                  exact ⟨ret_bool HE.out.symm, HT4.out⟩
        · have hd4 : decide ((sk : Int) ≤ 300) = false := decide_eq_false (by omega)
          go_wp2_with fail
          go_loop [9, 11] (fun s i => s = .int .i64 (sk : Nat) ∧ i = .int .i64 0) (fun _ _ => 0)
          case atStart => exact ⟨rfl, rfl⟩
          case round =>
            obtain ⟨rfl, rfl⟩ := hrel
            go_wp2_with fail
            go_loop [9, 12] (fun s i => s = .int .i64 (sk : Nat) ∧ i = .int .i64 0) (fun _ _ => 0)
            case atStart => exact ⟨rfl, rfl⟩
            case round =>
              obtain ⟨rfl, rfl⟩ := hrel
              go_wp2_with fail
              go_loop [9, 13] (fun s i => s = .int .i64 (sk : Nat) ∧ i = .int .i64 0) (fun _ _ => 0)
              case atStart => exact ⟨rfl, rfl⟩
              case round =>
                obtain ⟨rfl, rfl⟩ := hrel
                go_wp2_with fail
                go_loop [9, 14] (fun s i => s = .int .i64 (sk : Nat) ∧ i = .int .i64 0) (fun _ _ => 0)
                case atStart => exact ⟨rfl, rfl⟩
                case round =>
                  obtain ⟨rfl, rfl⟩ := hrel
                  go_wp2_with fail
                  go_ret
                  exact ⟨ret_bool HE.out.symm, HT4.out⟩
    · obtain rfl : k = ls.length := by omega
      have HE := Lib.hid (HEND.out (by omega))
      generalize sumTo ls ls.length = sk at hsb2 HE ⊢
      have hd3 : decide ((ls.length : Int) ≤ 10) = true := decide_eq_true (by omega)
      rw [hd3, Bool.and_true] at HE
      clear HEND HC
      by_cases hs : sk ≤ 300
      · have hd4 : decide ((sk : Int) ≤ 300) = true := decide_eq_true (by omega)
        rw [hd4] at HE
        go_wp2_with fail
        go_loop [9, 11] (fun s i => s = .int .i64 (sk : Nat) ∧ i = .int .i64 0) (fun _ _ => 0)
        case atStart => exact ⟨rfl, rfl⟩
        case round =>
          obtain ⟨rfl, rfl⟩ := hrel
          go_wp2_with fail
          go_loop [9, 12] (fun s i => s = .int .i64 (sk : Nat) ∧ i = .int .i64 0) (fun _ _ => 0)
          case atStart => exact ⟨rfl, rfl⟩
          case round =>
            obtain ⟨rfl, rfl⟩ := hrel
            go_wp2_with fail
            go_loop [9, 13] (fun s i => s = .int .i64 (sk : Nat) ∧ i = .int .i64 0) (fun _ _ => 0)
            case atStart => exact ⟨rfl, rfl⟩
            case round =>
              obtain ⟨rfl, rfl⟩ := hrel
              go_wp2_with fail
              go_loop [9, 14] (fun s i => s = .int .i64 (sk : Nat) ∧ i = .int .i64 0) (fun _ _ => 0)
              case atStart => exact ⟨rfl, rfl⟩
              case round =>
                obtain ⟨rfl, rfl⟩ := hrel
                go_wp2_with fail
                go_ret
                exact ⟨ret_bool HE.out.symm, HT4.out⟩
      · have hd4 : decide ((sk : Int) ≤ 300) = false := decide_eq_false (by omega)
        rw [hd4] at HE
        go_wp2_with fail
        go_loop [9, 11] (fun s i => s = .int .i64 (sk : Nat) ∧ i = .int .i64 0) (fun _ _ => 0)
        case atStart => exact ⟨rfl, rfl⟩
        case round =>
          obtain ⟨rfl, rfl⟩ := hrel
          go_wp2_with fail
          go_loop [9, 12] (fun s i => s = .int .i64 (sk : Nat) ∧ i = .int .i64 0) (fun _ _ => 0)
          case atStart => exact ⟨rfl, rfl⟩
          case round =>
            obtain ⟨rfl, rfl⟩ := hrel
            go_wp2_with fail
            go_loop [9, 13] (fun s i => s = .int .i64 (sk : Nat) ∧ i = .int .i64 0) (fun _ _ => 0)
            case atStart => exact ⟨rfl, rfl⟩
            case round =>
              obtain ⟨rfl, rfl⟩ := hrel
              go_wp2_with fail
              go_loop [9, 14] (fun s i => s = .int .i64 (sk : Nat) ∧ i = .int .i64 0) (fun _ _ => 0)
              case atStart => exact ⟨rfl, rfl⟩
              case round =>
                obtain ⟨rfl, rfl⟩ := hrel
                go_wp2_with fail
                go_ret
                exact ⟨ret_bool HE.out.symm, HT4.out⟩
end Go.Proofs.YtojedplbhialpaaGreatDoor
