/-
  Plain law of PresortLeast: all plans, by number.
-/
import Derived.Test.YtpieagaggjngjaaGL
namespace Go.Proofs.Ytpieagaggjngjaa
open Go.RowKit
set_option linter.unusedVariables false
set_option maxRecDepth 100000
/-- The digits of a number to a base, the lowest one first. -/
def digs (L : Nat) : Nat → Nat → List Int
  | 0, _ => []
  | n + 1, k => ((k % L : Nat) : Int) :: digs L n (k / L)
theorem digs_len (L : Nat) : ∀ n k, (digs L n k).length = n
  | 0, _ => rfl
  | n + 1, k => by rw [digs, List.length_cons, digs_len]
theorem digs_at (L : Nat) : ∀ n k i (h : i < (digs L n k).length), (digs L n k)[i] = ((k / L ^ i % L : Nat) : Int)
  | 0, _, i, h => absurd h (by simp [digs])
  | n + 1, k, 0, h => by simp [digs]
  | n + 1, k, i + 1, h => by
    have h' : i < (digs L n (k / L)).length := by simpa [digs] using h
    show (digs L n (k / L))[i] = _
    rw [digs_at L n (k / L) i h', Nat.div_div_eq_div_mul, Nat.pow_succ, Nat.mul_comm]
theorem digs_nums {L : Nat} (hL : 0 < L) (n k : Nat) : numsB L (digs L n k) = true := nums_true (fun i hi => by
  rw [digs_at L n k i hi]
  have := Nat.mod_lt (k / L ^ i) hL
  omega)
theorem digs_all {L : Nat} (hL : 0 < L) : ∀ (zs : List Int), numsB L zs = true → ∃ k, k < L ^ zs.length ∧ digs L zs.length k = zs
  | [], _ => ⟨0, by simp, rfl⟩
  | z :: r, h => by
    have h0 := nums_at h 0 (by simp)
    rw [List.getElem_cons_zero] at h0
    have hr : numsB L r = true := nums_true (fun i hi => by
      have := nums_at h (i + 1) (by simp; omega)
      simpa using this)
    obtain ⟨k, hk, hd⟩ := digs_all hL r hr
    obtain ⟨d, rfl⟩ : ∃ d : Nat, z = (d : Int) := ⟨z.toNat, by omega⟩
    have hdL : d < L := by omega
    refine ⟨k * L + d, ?_, ?_⟩
    · rw [List.length_cons, Nat.pow_succ]
      have : (k + 1) * L ≤ L ^ r.length * L := Nat.mul_le_mul_right _ hk
      rw [Nat.add_mul] at this
      omega
    · rw [List.length_cons]
      show (((k * L + d) % L : Nat) : Int) :: digs L r.length ((k * L + d) / L) = _
      rw [Nat.mul_comm, Nat.mul_add_mod, Nat.mod_eq_of_lt hdL, Nat.mul_add_div hL, Nat.div_eq_of_lt hdL, Nat.add_zero, hd]
/-- The best of the first K plans. -/
def bestTo (ls : List Lev) (Gs : List Grp) (n : Nat) : Nat → Int
  | 0 => 0
  | K + 1 => if grpsOkB ls (digs ls.length n K) Gs = true then max (bestTo ls Gs n K) (savesTo ls (digs ls.length n K) n) else bestTo ls Gs n K
theorem bestTo_ge (ls : List Lev) (Gs : List Grp) (n : Nat) : ∀ K k, k < K → grpsOkB ls (digs ls.length n k) Gs = true → savesTo ls (digs ls.length n k) n ≤ bestTo ls Gs n K
  | 0, k, h, _ => absurd h (Nat.not_lt_zero _)
  | K + 1, k, h, ho => by
    rw [bestTo]
    by_cases e : k = K
    · subst e
      rw [if_pos ho]; omega
    · have := bestTo_ge ls Gs n K k (by omega) ho
      split <;> omega
theorem bestTo_le {ls : List Lev} {Gs : List Grp} {n : Nat} {M : Int} (h0 : 0 ≤ M) (hM : ∀ k, grpsOkB ls (digs ls.length n k) Gs = true → savesTo ls (digs ls.length n k) n ≤ M) : ∀ K, bestTo ls Gs n K ≤ M
  | 0 => h0
  | K + 1 => by
    have := bestTo_le h0 hM K
    rw [bestTo]
    split
    · rename_i h
      have := hM K h
      omega
    · exact this
theorem bestTo_nonneg (ls : List Lev) (Gs : List Grp) (n : Nat) : ∀ K, 0 ≤ bestTo ls Gs n K
  | 0 => Int.le_refl _
  | K + 1 => by
    have := bestTo_nonneg ls Gs n K
    rw [bestTo]
    split <;> omega
theorem bestTo_all {ls : List Lev} {cs : List ByteArray} (h : Fit ls cs) : bestTo ls (gAll ls cs ls.length) cs.length (ls.length ^ cs.length) = bestS ls cs := by
  have hlen := right_len h.right
  have hn := planC_nums h.right h.code h.pre
  have hl := planC_len ls cs
  have h0 : 0 ≤ bestS ls cs := (saves_bound h.right hn cs.length (by omega)).1
  have h1 := bestTo_le (n := cs.length) (Gs := gAll ls cs ls.length) h0 (fun k ho => planC_best h.right h.code h.pre (digs_len _ _ _) (digs_nums (by omega) _ _) ho) (ls.length ^ cs.length)
  obtain ⟨k, hk, hd⟩ := digs_all (L := ls.length) (by omega) _ hn
  rw [hl] at hk hd
  have h2 := bestTo_ge ls (gAll ls cs ls.length) cs.length _ k hk (by rw [hd]; exact planC_ok h.right h.code h.pre)
  rw [hd] at h2
  have h3 : savesTo ls (planC ls cs) cs.length = bestS ls cs := rfl
  omega
/-- While one plan is written: the digits so far. -/
theorem digs_step {L n k i : Nat} (hi : i < n) {zs : List Int} (hz : zs.length = n) (ht : zs.take i = (digs L n k).take i) : (zs.set i ((k / L ^ i % L : Nat) : Int)).take (i + 1) = (digs L n k).take (i + 1) := by
  have hl := digs_len L n k
  rw [List.take_succ_eq_append_getElem (by rw [List.length_set]; omega), List.take_succ_eq_append_getElem (by omega), digs_at, List.getElem_set_self, List.take_set_of_le (Nat.le_refl _), ht]
def allTo (L : Nat) (i : Nat) : Int := ((L ^ i : Nat) : Int)
end Go.Proofs.Ytpieagaggjngjaa
