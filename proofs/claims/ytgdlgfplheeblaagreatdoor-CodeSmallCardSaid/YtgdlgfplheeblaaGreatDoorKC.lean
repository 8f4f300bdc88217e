/-
  Package code: the digits of a code, in plain words.
-/
import Derived.Test.YtgdlgfplheeblaaGreatDoorKB
namespace Go.Proofs.YtgdlgfplheeblaaGreatDoor
open Go.RowKit
set_option linter.unusedVariables false
set_option maxRecDepth 100000
/-- The digits of one byte of a code. -/
def num1 (k : Bool) (c : UInt8) : List UInt8 := if k then padL (c.toNat - 64) 2 else [c]
def numL : List Bool → List UInt8 → List UInt8
  | k :: ks, c :: l => num1 k c ++ numL ks l
  | _, _ => []
theorem num1_digit {k : Bool} {c : UInt8} (h : kindB k c.toNat = true) : (∀ x ∈ num1 k c, 48 ≤ x.toNat ∧ x.toNat ≤ 57) ∧ (num1 k c).length = if k then 2 else 1 := by
  cases k
  · unfold kindB at h
    have h' : isDigit (c.toNat : Int) = true := h
    unfold isDigit at h'
    simp at h'
    refine ⟨fun x hx => ?_, rfl⟩
    have : x = c := by simpa [num1] using hx
    subst this
    omega
  · unfold kindB at h
    have h' : isLetter (c.toNat : Int) = true := h
    unfold isLetter at h'
    simp at h'
    exact ⟨padL_digit _ _, padL_len (by decide) (by omega)⟩
theorem numL_digit : ∀ {ks : List Bool} {l : List UInt8}, matchesB l ks = true → (∀ x ∈ numL ks l, 48 ≤ x.toNat ∧ x.toNat ≤ 57) ∧ (numL ks l).length = (ks.map (fun k => if k then 2 else 1)).sum
  | [], [], _ => ⟨by simp [numL], rfl⟩
  | [], _ :: _, h => by cases h
  | _ :: _, [], h => by cases h
  | k :: ks, c :: l, h => by
    rw [matchesB, Bool.and_eq_true] at h
    obtain ⟨a1, a2⟩ := num1_digit h.1
    obtain ⟨b1, b2⟩ := numL_digit h.2
    unfold numL
    refine ⟨fun x hx => ?_, by rw [List.length_append, a2, b2, List.map_cons, List.sum_cons]⟩
    rcases List.mem_append.1 hx with hx | hx
    · exact a1 x hx
    · exact b1 x hx
theorem numL_snoc : ∀ (ks : List Bool) (l : List UInt8) (k : Nat) (hk : k < ks.length) (hl : k < l.length), numL (ks.take (k + 1)) (l.take (k + 1)) = numL (ks.take k) (l.take k) ++ num1 ks[k] l[k]
  | a :: ks, c :: l, 0, _, _ => by simp [numL]
  | a :: ks, c :: l, k + 1, hk, hl => by
    have := numL_snoc ks l k (by simpa using hk) (by simpa using hl)
    simp only [List.take_succ_cons, numL, List.getElem_cons_succ, this, List.append_assoc]
  | [], _, _, hk, _ => by simp at hk
  | _ :: _, [], _, _, hl => by simp at hl
/-- The digits of a payload, without the check digit. -/
def bodyL (j : Nat) (l : List UInt8) (p : Nat) : List UInt8 := UInt8.ofNat (48 + j) :: (List.replicate (9 - (numL (patOf j) l).length) 48 ++ (numL (patOf j) l ++ padL p 6))
theorem bodyL_facts {j : Nat} (hj : j = 1 ∨ j = 2 ∨ j = 3) {l : List UInt8} (h : matchesB l (patOf j) = true) {p : Nat} (hp : p < 1000000) : (bodyL j l p).length = 16 ∧ ∀ x ∈ bodyL j l p, 48 ≤ x.toNat ∧ x.toNat ≤ 57 := by
  obtain ⟨a, b⟩ := numL_digit h
  have hb : (numL (patOf j) l).length ≤ 9 := by rw [b]; rcases hj with rfl | rfl | rfl <;> decide
  have hq := padL_len (n := p) (width := 6) (by decide) (by omega)
  unfold bodyL
  refine ⟨by simp only [List.length_cons, List.length_append, List.length_replicate, hq]; omega, fun x hx => ?_⟩
  rcases List.mem_cons.1 hx with rfl | hx
  · rw [UInt8.toNat_ofNat']
    omega
  · rcases List.mem_append.1 hx with hx | hx
    · rw [(List.mem_replicate.1 hx).2]; decide
    · rcases List.mem_append.1 hx with hx | hx
      · exact a x hx
      · exact padL_digit p 6 x hx
end Go.Proofs.YtgdlgfplheeblaaGreatDoor
