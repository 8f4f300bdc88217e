/-
  Contracts of the closures of Classes, and of Classes.
-/
import Derived.Test.YtdcpmnkebhilpaaGreatDoorC
import Derived.Test.YtdcpmnkebhilpaaGreatDoorTable
namespace Go.Proofs.YtdcpmnkebhilpaaGreatDoor
open Go.RowKit
theorem matches_n (s : ByteArray) (ks : List Bool) (n : Nat) (hn : ks.length = n) (B : Nat) (w : World) (hs : s.size ≤ maxLen) (hk : ks.length ≤ 10)
    (hc : ∀ i, i < ks.length → w.cell? ⟨B, i, none⟩ = some (fv (ks.getD i true))) (cap : Nat) :
    Calls Tryz.prog 50 #[.string s, .slice (some ⟨B, 0, none⟩) n cap] w fun e w' => e = .returned (.bool (matchesB s.data.toList ks)) ∧ w = w' := by
  subst hn; exact matches_any s ks B w hs hk hc cap
theorem classes3_any (s : ByteArray) (w : World) (hs : s.size ≤ maxLen) :
    Calls Tryz.prog 49 #[.string s] w fun e w' => e = .returned (.bool (matchesB s.data.toList [true, true])) ∧ Below w.heap.size w w' := by
  go_enter Tryz.func49, Tryz.ntmps49
  go_wp2_with (go_at_call 50; refine (matches_n s [true, true] 2 rfl w.heap.size _ hs (by decide) (cells_of_block _ _ _ _ _ (MapKept.heap_alloc _ _).1 rfl) _).mono ?_; rintro e w' ⟨rfl, rfl⟩)
  go_ret
  exact ⟨rfl, (Below.refl _ w).alloc (Nat.le_refl _) _⟩
theorem classes4_any (s : ByteArray) (w : World) (hs : s.size ≤ maxLen) :
    Calls Tryz.prog 52 #[.string s] w fun e w' => e = .returned (.bool (matchesB s.data.toList [false, false, false, false, false])) ∧ Below w.heap.size w w' := by
  go_enter Tryz.func52, Tryz.ntmps52
  go_wp2_with (go_at_call 50; refine (matches_n s [false, false, false, false, false] 5 rfl w.heap.size _ hs (by decide) (cells_of_block _ _ _ _ _ (MapKept.heap_alloc _ _).1 rfl) _).mono ?_; rintro e w' ⟨rfl, rfl⟩)
  go_ret
  exact ⟨rfl, (Below.refl _ w).alloc (Nat.le_refl _) _⟩
theorem classes5_any (s : ByteArray) (w : World) (hs : s.size ≤ maxLen) :
    Calls Tryz.prog 54 #[.string s] w fun e w' => e = .returned (.bool (matchesB s.data.toList [true, false, true, false, true, false])) ∧ Below w.heap.size w w' := by
  go_enter Tryz.func54, Tryz.ntmps54
  go_wp2_with (go_at_call 50; refine (matches_n s [true, false, true, false, true, false] 6 rfl w.heap.size _ hs (by decide) (cells_of_block _ _ _ _ _ (MapKept.heap_alloc _ _).1 rfl) _).mono ?_; rintro e w' ⟨rfl, rfl⟩)
  go_ret
  exact ⟨rfl, (Below.refl _ w).alloc (Nat.le_refl _) _⟩
theorem classes6_any (s : ByteArray) (w : World) (hs : s.size ≤ maxLen) :
    Calls Tryz.prog 55 #[.string s] w fun e w' => e = .returned (.bool (matchesB s.data.toList [true, false, true])) ∧ Below w.heap.size w w' := by
  go_enter Tryz.func55, Tryz.ntmps55
  go_wp2_with (go_at_call 50; refine (matches_n s [true, false, true] 3 rfl w.heap.size _ hs (by decide) (cells_of_block _ _ _ _ _ (MapKept.heap_alloc _ _).1 rfl) _).mono ?_; rintro e w' ⟨rfl, rfl⟩)
  go_ret
  exact ⟨rfl, (Below.refl _ w).alloc (Nat.le_refl _) _⟩
theorem classes7_any (s : ByteArray) (w : World) (hs : s.size ≤ maxLen) :
    Calls Tryz.prog 56 #[.string s] w fun e w' => e = .returned (.bool (matchesB s.data.toList [false, true, false])) ∧ Below w.heap.size w w' := by
  go_enter Tryz.func56, Tryz.ntmps56
  go_wp2_with (go_at_call 50; refine (matches_n s [false, true, false] 3 rfl w.heap.size _ hs (by decide) (cells_of_block _ _ _ _ _ (MapKept.heap_alloc _ _).1 rfl) _).mono ?_; rintro e w' ⟨rfl, rfl⟩)
  go_ret
  exact ⟨rfl, (Below.refl _ w).alloc (Nat.le_refl _) _⟩
theorem classes8_any (s : ByteArray) (w : World) (hs : s.size ≤ maxLen) :
    Calls Tryz.prog 57 #[.string s] w fun e w' => e = .returned (.bool (matchesB s.data.toList [false, false, false, false])) ∧ Below w.heap.size w w' := by
  go_enter Tryz.func57, Tryz.ntmps57
  go_wp2_with (go_at_call 50; refine (matches_n s [false, false, false, false] 4 rfl w.heap.size _ hs (by decide) (cells_of_block _ _ _ _ _ (MapKept.heap_alloc _ _).1 rfl) _).mono ?_; rintro e w' ⟨rfl, rfl⟩)
  go_ret
  exact ⟨rfl, (Below.refl _ w).alloc (Nat.le_refl _) _⟩
theorem classes1_any (k : Int) (B : Nat) (w : World) :
    Calls Tryz.prog 43 #[.int .u8 k, .pointer (some ⟨B, 0, none⟩)] w fun e w' => e = .returned (.func (.func 44) #[] #[.pointer (some ⟨B, 0, none⟩), .pointer (some ⟨w.heap.size, 0, none⟩)]) ∧
      w.alloc (.cells #[.int .u8 k] 5) = w' := by
  go_enter Tryz.func43, Tryz.ntmps43
  go_wp2_with fail
  go_ret
  exact ⟨rfl, rfl⟩
theorem and_one_u8 : ∀ x : Fin 256, bits BinOp.and IntKind.u8 ((x.val : Nat) : Int) 1 = ((x.val % 2 : Nat) : Int) := by decide +kernel
theorem and_one (x : Int) (h0 : 0 ≤ x) (h1 : x < 256) : bits BinOp.and IntKind.u8 x 1 = x % 2 := by
  obtain ⟨n, rfl⟩ := Int.eq_ofNat_of_zero_le h0
  have := and_one_u8 ⟨n, by omega⟩
  simpa using this
def kindOf (ks k : Int) : Bool := decide (ks / 2 ^ k.toNat % 2 = 1)
theorem classes11_any (s : ByteArray) (ks k : Int) (B C : Nat) (w : World) (hk0 : 1 ≤ k) (hk1 : k ≤ 4) (h0 : 0 ≤ ks) (h1 : ks < 256) (hb : w.cell? ⟨B, 0, none⟩ = some (.int .u8 ks)) (hc : w.cell? ⟨C, 0, none⟩ = some (.int .u8 k)) :
    Calls Tryz.prog 44 #[.string s, .pointer (some ⟨B, 0, none⟩), .pointer (some ⟨C, 0, none⟩)] w fun e w' => e = .returned (.bool (kindOf ks k)) ∧ w = w' := by
  have hp : (0 : Int) < 2 ^ k.toNat := Int.pow_pos (by decide)
  have ha := and_one (ks / 2 ^ k.toNat) (Int.ediv_nonneg h0 (Int.le_of_lt hp)) (Int.lt_of_le_of_lt (Int.ediv_le_self _ h0) h1)
  have HA := Lib.hid ha
  clear ha hp
  go_enter Tryz.func44, Tryz.ntmps44
  go_wp2_with fail
  go_ret
  exact ⟨ret_bool (by rw [HA.out]; unfold kindOf; rw [Bool.eq_iff_iff]; simp), rfl⟩
end Go.Proofs.YtdcpmnkebhilpaaGreatDoor
