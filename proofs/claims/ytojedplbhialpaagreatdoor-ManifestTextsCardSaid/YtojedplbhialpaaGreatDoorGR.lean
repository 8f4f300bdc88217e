import Derived.Test.YtojedplbhialpaaGreatDoorGN
import Derived.Test.YtojedplbhialpaaGreatDoorGO
import Derived.Lib.ItoaMem
/-! MY -/
namespace Go.Proofs.YtojedplbhialpaaGreatDoor
open Go.RowKit Go.Sort
set_option linter.unusedVariables false
set_option maxRecDepth 100000
set_option maxHeartbeats 8000000 in
/-- Text of a scheme that is not right, or of a manifest with another number of lines. -/
theorem text_no {ls : List Lev} {X : Man} {vl v : Value} (w : World) (hr : RdLevs w vl ls) (hf : ∀ l ∈ ls, LevFits l) (hll : ls.length ≤ 100000) (hx : ∃ a n c, v = .slice a n c ∧ (n = X.lines.length)) (hno : rightB ls = false ∨ X.lines.length ≠ ls.length) :
    Calls Tryz.prog 20 #[vl, manA X v] w fun e w' => e = .returned (.tuple #[.string ⟨#[]⟩, .int .i64 2]) ∧ Below w.heap.size w w' := by
  obtain ⟨W0, hW0⟩ : ∃ W0, W0 = w.alloc (.cells #[v, .int .i64 X.total.level, .int .i64 X.total.pieces, .int .i64 X.total.barred, .int .i64 X.total.grams, .int .i64 X.total.base, .int .i64 X.total.bar, .int .i64 X.total.saved, .int .i64 X.total.cents, .int .i64 X.buns, .int .i64 X.tras, .int .i64 X.cons] 44) := ⟨_, rfl⟩
  have hbox : W0.heap[w.heap.size]? = some (.cells #[v, .int .i64 X.total.level, .int .i64 X.total.pieces, .int .i64 X.total.barred, .int .i64 X.total.grams, .int .i64 X.total.base, .int .i64 X.total.bar, .int .i64 X.total.saved, .int .i64 X.total.cents, .int .i64 X.buns, .int .i64 X.tras, .int .i64 X.cons] 44) := by rw [hW0]; exact alloc_new w _
  have hb0 : Below w.heap.size w W0 := by rw [hW0]; exact (Below.refl _ w).alloc (Nat.le_refl _) _
  have hs0 : W0.heap.size = w.heap.size + 1 := by rw [hW0]; simp
  have hsr := fun W (hW : Below w.heap.size w W) => right_any ls vl W (hr.below hW) hf (by unfold maxLen; omega)
  obtain ⟨al, cl, rfl, _⟩ := hr
  obtain ⟨ax, nx, cx, rfl, rfl⟩ := hx
  have HW0 := Lib.hid hW0
  have HB0 := Lib.hid hb0
  have HBOX := Lib.hid hbox
  unfold manA
  cases hri : rightB ls
  · rw [hri] at hsr
    have HSR := Lib.hid hsr
    clear hW0 hb0 hbox hsr hf hno hri
    go_enter Tryz.func20, Tryz.ntmps20
    go_wp2_with fail
    rw [← HW0.out]
    refine (HSR.out _ HB0.out).mono ?_
    rintro e w1 ⟨rfl, hb1⟩
    have HB1 := Lib.hid (below_c HB0.out HB0.out.size hb1)
    clear hb1
    go_wp2_with fail
    go_ret2
    exact ⟨rfl, HB1.out⟩
  · have hne : X.lines.length ≠ ls.length := by
      rcases hno with h | h
      · rw [hri] at h; cases h
      · exact h
    have hn2 : ((X.lines.length : Int) != (ls.length : Int)) = true := by simp; omega
    rw [hri] at hsr
    have HSR := Lib.hid hsr
    clear hW0 hb0 hbox hsr hf hno hri hne
    go_enter Tryz.func20, Tryz.ntmps20
    go_wp2_with fail
    rw [← HW0.out]
    refine (HSR.out _ HB0.out).mono ?_
    rintro e w1 ⟨rfl, hb1⟩
    have hs1 := hb1.size
    have k1 := (hb1.block w.heap.size (by omega)).trans HBOX.out
    have x0 := cell_of_row _ _ 0 _ _ _ k1
    have HB1 := Lib.hid (below_c HB0.out HB0.out.size hb1)
    clear hb1 k1
    go_wp2_with fail
    go_ret2
    exact ⟨rfl, HB1.out⟩
end Go.Proofs.YtojedplbhialpaaGreatDoor

/-! E0 -/
namespace Go.Proofs.YtojedplbhialpaaGreatDoor
open Go.RowKit
set_option linter.unusedVariables false
theorem itoaB_small {u : Nat} (h : u < 10) : itoaB (u : Int) = ⟨#[UInt8.ofNat (48 + u)]⟩ := by
  unfold itoaB
  rw [Lib.itoa_nonneg, Lib.decDigits_one h]
theorem itoaB_big {u : Nat} (h : ¬ u < 10) : itoaB (u : Int) = itoaB ((u / 10 : Nat) : Int) ++ itoaB ((u % 10 : Nat) : Int) := by
  unfold itoaB
  rw [Lib.itoa_nonneg, Lib.itoa_nonneg, Lib.itoa_nonneg, Lib.decDigits, dif_neg h, Lib.decDigits_one (i := u % 10) (by omega)]
  apply ByteArray.ext
  rw [ByteArray.data_append]
  simp
theorem itoaB_neg {u : Nat} (h : 1 ≤ u) : itoaB (-(u : Int)) = ⟨#[45]⟩ ++ itoaB (u : Int) := by
  unfold itoaB
  rw [Lib.itoa_nonneg, Lib.itoa_neg u h]
  apply ByteArray.ext
  rw [ByteArray.data_append]
  simp
theorem ba_assoc (a b c : ByteArray) : a ++ b ++ c = a ++ (b ++ c) := ByteArray.append_assoc
theorem itoaB_neg_big {u : Nat} (h : ¬ u < 10) : itoaB (-(u : Int)) = itoaB (-((u / 10 : Nat) : Int)) ++ itoaB ((u % 10 : Nat) : Int) := by
  rw [itoaB_neg (by omega), itoaB_neg (by omega), itoaB_big h, ba_assoc]
theorem two_digits {m : Nat} (h : m < 100) : twoB (itoaB (m : Int)) = ⟨#[UInt8.ofNat (48 + m / 10), UInt8.ofNat (48 + m % 10)]⟩ := by
  by_cases h1 : m < 10
  · rw [itoaB_small h1]
    have e1 : m / 10 = 0 := by omega
    have e2 : m % 10 = m := by omega
    rw [e1, e2]
    unfold twoB
    rw [if_pos (by show (1 : Nat) < 2; decide)]
    apply ByteArray.ext
    rw [ByteArray.data_append]
    rfl
  · rw [itoaB_big h1, itoaB_small (by omega), itoaB_small (by omega)]
    unfold twoB
    rw [if_neg (by rw [ByteArray.size_append]; show ¬ (1 + 1 < 2); decide)]
    apply ByteArray.ext
    rw [ByteArray.data_append]
    rfl
def signB (c : Int) : ByteArray := if c < 0 then ⟨#[45]⟩ else ⟨#[]⟩
theorem moneyB_ref (c : Int) (x : Nat) (hx : c.natAbs = x) : moneyB c = signB c ++ (itoaB ((x / 100 : Nat) : Int) ++ (⟨#[46]⟩ ++ ⟨#[UInt8.ofNat (48 + x / 10 % 10), UInt8.ofNat (48 + x % 10)]⟩)) := by
  unfold moneyB signB
  rw [hx]
  have e1 : ((x : Int) / 100) = ((x / 100 : Nat) : Int) := by omega
  have e2 : ((x : Int) % 100) = ((x % 100 : Nat) : Int) := by omega
  rw [e1, e2, two_digits (m := x % 100) (by omega), ba_assoc, ba_assoc]
  have e3 : x % 100 / 10 = x / 10 % 10 := by omega
  have e4 : x % 100 % 10 = x % 10 := by omega
  rw [e3, e4]
/-- What the reference puts before the point: a number that grows shorter, and a text that grows longer. -/
theorem money_step {n : Nat} (h : ¬ n < 10) (s : ByteArray) : itoaB (n : Int) ++ s = itoaB ((n / 10 : Nat) : Int) ++ (⟨#[UInt8.ofNat (48 + n % 10)]⟩ ++ s) := by
  rw [itoaB_big h, itoaB_small (u := n % 10) (by omega), ba_assoc]
/-- Can the numbers of a line be written? -/
def allAmt (X : Man) : Bool := amtL X.total && X.lines.all amtL
def lineB (name : ByteArray) (l : Ln) : ByteArray := ⟨(wordsB name (wordsL l)).toArray⟩
noncomputable def textOk (ls : List Lev) (X : Man) : Bool := rightB ls && decide (X.lines.length = ls.length) && allAmt X
noncomputable def textV (ls : List Lev) (X : Man) : ByteArray × Int := if textOk ls X then (⟨(textL ls X).toArray⟩, 0) else (⟨#[]⟩, 2)
end Go.Proofs.YtojedplbhialpaaGreatDoor
