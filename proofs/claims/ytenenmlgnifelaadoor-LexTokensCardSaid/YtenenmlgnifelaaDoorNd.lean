/-
  Contracts of letterbaglaw08.digits and letterbagkit.Pick.
-/
import Derived.Test.YtenenmlgnifelaaDoorLn
import Derived.Laws.IdiomStrings
import Derived.Deep.RegionWith
import Derived.IntWalk
import Derived.Outline
namespace Go.Proofs.YtenenmlgnifelaaDoor
open Go.RowKit
set_option linter.unusedVariables false
/-- A slice of one byte as a text. -/
theorem conv1 (x : Int) (c : UInt8) (hx : (c.toNat : Int) = x) (W : World) (b : Nat) (hc : W.cell? ⟨b, 0, none⟩ = some (.int .u8 x)) :
    Sem.run Tryd.prog (convert 37 9 (.slice (some ⟨b, 0, none⟩) 1 1)) W = .ok (.string ⟨#[c]⟩) W :=
  run_convert_bytes_back (P := Tryd.prog) W 37 9 5 ⟨b, 0, none⟩ 1 [c] Tryd.underlying37 Tryd.underlying5 Tryd.underlying9 (fun j hj => by
    obtain rfl : j = 0 := by simp at hj; omega
    subst hx; exact hc)
theorem cells_kept' {A B : World} (h : Below A.heap.size A B) : (∀ b o, b < A.heap.size → B.cell? ⟨b, o, none⟩ = A.cell? ⟨b, o, none⟩) ∧ A.heap.size ≤ B.heap.size :=
  ⟨fun b o hb => h.cell (p := ⟨b, o, none⟩) hb, h.size⟩
theorem str_snoc (l : List UInt8) (c : UInt8) : Ending.returned (.string ((⟨l.toArray⟩ : ByteArray) ++ ⟨#[c]⟩)) = .returned (.string ⟨(l ++ [c]).toArray⟩) :=
  congrArg (fun b => Ending.returned (.string b)) (WideShapes.bytes_inj (by simp))
theorem dg_A {w w5 : World} {x : Obj} (hb5 : Below w.drew.heap.size w.drew w5) : Below w.heap.size w (w5.alloc x) := by
  have h1 : Below w.heap.size w w5 := (Below.refl _ w).drew.trans hb5
  exact h1.alloc h1.size _
theorem dg_B {w w5 : World} {x : Obj} (hb5 : Below (w.alloc x).drew.heap.size (w.alloc x).drew w5) : Below w.heap.size w w5 :=
  ((Below.refl _ w).alloc (Nat.le_refl _) x).drew.trans (hb5.mono (by show w.heap.size ≤ (w.alloc x).heap.size; simp))
set_option maxRecDepth 100000 in
set_option maxHeartbeats 1000000 in
theorem digits_any : ∀ (f n : Nat) (w : World), n < 10 ^ (f + 1) → n ≤ 999999 →
    Calls Tryd.prog 21 #[.int .i64 n] w fun e w' => e = .returned (.string ⟨(digGo (f + 1) n).toArray⟩) ∧ Below w.heap.size w w' := by
  intro f
  induction f with
  | zero =>
    intro n w h h9
    have h10 : n < 10 := by simpa using h
    have hk := conv1 (48 + (n : Int)) (UInt8.ofNat (48 + n)) (ofNat_digit h10)
    have hg : digGo (0 + 1) n = [UInt8.ofNat (48 + n)] := by rw [digGo, if_pos h10]
    rw [hg]
    clear hg h
    generalize UInt8.ofNat (48 + n) = c at hk ⊢
    go_enter Tryd.func21, Tryd.ntmps21
    go_wp2_with fail
    go_ret
    exact ⟨rfl, (Below.refl _ w).alloc (Nat.le_refl _) _⟩
  | succ f ih =>
    intro n w h h9
    by_cases h10 : n < 10
    · have hk := conv1 (48 + (n : Int)) (UInt8.ofNat (48 + n)) (ofNat_digit h10)
      have hg : digGo (f + 1 + 1) n = [UInt8.ofNat (48 + n)] := by rw [digGo, if_pos h10]
      rw [hg]
      clear hg h ih
      generalize UInt8.ofNat (48 + n) = c at hk ⊢
      go_enter Tryd.func21, Tryd.ntmps21
      go_wp2_with fail
      go_ret
      exact ⟨rfl, (Below.refl _ w).alloc (Nat.le_refl _) _⟩
    · have hk := conv1 (48 + (n : Int) % 10) (UInt8.ofNat (48 + n % 10)) (by rw [ofNat_digit (Nat.mod_lt n (by decide))]; omega)
      have hg : digGo (f + 1 + 1) n = digGo (f + 1) (n / 10) ++ [UInt8.ofNat (48 + n % 10)] := by rw [digGo, if_neg h10]
      rw [hg]
      have h1 := fun W => ih (n / 10) W (by rw [Nat.pow_succ] at h; omega) (by omega)
      rw [show (((n / 10 : Nat) : Int)) = (n : Int) / 10 from by omega] at h1
      have H := Lib.hid h1
      have hl : (digGo (f + 1) (n / 10)).length ≤ 6 := (digits_go f (n / 10) (by rw [Nat.pow_succ] at h; omega)).len_le (by omega) 6 (by omega)
      clear hg h ih h1
      generalize digGo (f + 1) (n / 10) = l at H hl ⊢
      generalize UInt8.ofNat (48 + n % 10) = c at hk ⊢
      have e1 : IntKind.i64.wrap ((n : Int) / 10) = (n : Int) / 10 := IntWalk.i64_in _ (by omega)
      have e2 : ((n : Int)).tmod 10 = (n : Int) % 10 := Int.tmod_eq_emod_of_nonneg (by omega)
      have e3 : IntKind.i64.wrap (48 + (n : Int) % 10) = 48 + (n : Int) % 10 := IntWalk.i64_in _ (by omega)
      have e4 : IntKind.u8.wrap (48 + (n : Int) % 10) = 48 + (n : Int) % 10 := by simp [IntKind.wrap, IntKind.bits, IntKind.signed]; omega
      go_enter Tryd.func21, Tryd.ntmps21
      go_wp2_with fail
      go_region_with (go_at_call 21; refine (H.out _).mono ?_; rintro e w5 ⟨rfl, hb5⟩; obtain ⟨hc5, hz5⟩ := cells_kept' hb5)
      all_goals go_wp2_with fail
      · go_ret
        exact ⟨str_snoc l c, dg_A hb5⟩
      · go_ret
        exact ⟨str_snoc l c, dg_B hb5⟩
      · go_ret
        exact ⟨str_snoc l c, dg_B hb5⟩
theorem pick_any (x n : Int) (w : World) (hn : 1 ≤ n) (hn2 : n ≤ 9223372036854775807) (hx : -9223372036854775808 ≤ x) (hx2 : x ≤ 9223372036854775807) :
    Calls Tryd.prog 20 #[.int .i64 x, .int .i64 n] w fun e w' => e = .returned (.int .i64 (x % n)) ∧ w = w' := by
  have ht : x.tmod n = x % n ∨ (x.tmod n < 0 ∧ x.tmod n + n = x % n) := by
    have h1 := Int.tmod_eq_emod (a := x) (b := n)
    have h2 := Int.emod_nonneg x (show n ≠ 0 by omega)
    have h3 := Int.emod_lt_of_pos x (show 0 < n by omega)
    split at h1
    · left; simpa using h1
    · right
      have : (n.natAbs : Int) = n := by omega
      omega
  have h2 := Int.emod_nonneg x (show n ≠ 0 by omega)
  have h3 := Int.emod_lt_of_pos x (show 0 < n by omega)
  go_enter Tryd.func20, Tryd.ntmps20
  go_wp2_with fail
  all_goals
    go_ret
    exact ⟨ret_int (by omega), rfl⟩
end Go.Proofs.YtenenmlgnifelaaDoor
