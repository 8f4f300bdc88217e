/-
  Plain law of PresortGrows, joined.
-/
import Derived.Test.YtpieagaggjngjaaGI
import Derived.Test.YtpieagaggjngjaaGL
namespace Go.Proofs.Ytpieagaggjngjaa
open Go.RowKit
set_option linter.unusedVariables false
set_option maxRecDepth 100000
theorem has_fit {ls : List Lev} {cs : List ByteArray} (h : HasPlan ls (mail25 cs)) : Fit ls cs := by
  have h1 := h.code
  have h2 := h.pre
  rw [mail_codesM] at h1 h2
  exact ⟨h.right, h1, h2⟩
theorem saves_best (ls : List Lev) (cs : List ByteArray) : savesM ls (mail25 cs) = bestS ls cs := by
  have e : (mail25 cs).ps.length = cs.length := mailTo_len _ _
  unfold savesM bestS planM
  rw [mail_codesM, e]
theorem half_has {ls : List Lev} {m : Mai} (h : HasPlan ls m) : HasPlan (ls.map half) m := by
  refine ⟨half_right h.right, h.mail, h.rng, h.org, fun l hl c hc => ?_⟩
  obtain ⟨l0, h0, rfl⟩ := List.mem_map.1 hl
  exact h.pre l0 h0 c hc
def mostTo (ls : List Lev) (k : Nat) : Int := (ls.take k).foldl (fun m l => max m l.cents) 0
theorem mostTo_succ (ls : List Lev) {k : Nat} (h : k < ls.length) : mostTo ls (k + 1) = max (mostTo ls k) ls[k].cents := by
  unfold mostTo
  rw [List.take_succ_eq_append_getElem h, List.foldl_append]; rfl
theorem mostTo_ge (ls : List Lev) : ∀ k, k ≤ ls.length → 0 ≤ mostTo ls k ∧ ∀ i (hi : i < ls.length), i < k → ls[i].cents ≤ mostTo ls k
  | 0, _ => ⟨by unfold mostTo; simp, fun i _ h => absurd h (Nat.not_lt_zero _)⟩
  | k + 1, hk => by
    obtain ⟨h1, h2⟩ := mostTo_ge ls k (by omega)
    rw [mostTo_succ ls hk]
    refine ⟨by omega, fun i hi hik => ?_⟩
    by_cases e : i = k
    · subst e; omega
    · have := h2 i hi (by omega); omega
theorem mostTo_at (ls : List Lev) : ∀ k, k ≤ ls.length → mostTo ls k = 0 ∨ ∃ i, ∃ (hi : i < ls.length), ls[i].cents = mostTo ls k
  | 0, _ => .inl (by unfold mostTo; simp)
  | k + 1, hk => by
    rw [mostTo_succ ls hk]
    by_cases e : mostTo ls k ≤ ls[k].cents
    · exact .inr ⟨k, hk, by omega⟩
    · rw [show max (mostTo ls k) ls[k].cents = mostTo ls k by omega]
      exact mostTo_at ls k (by omega)
theorem right_cents {ls : List Lev} (h : rightB ls = true) : ∀ i (hi : i < ls.length), 0 ≤ ls[i].cents ∧ ls[i].cents ≤ 1000000 := fun i hi => by
  obtain ⟨h1, _, ⟨_, hlv, _, _⟩, _⟩ := rightB_iff.1 h
  obtain ⟨hh, _⟩ := levelB_iff.1 (hlv i hi hi)
  exact ⟨(head_parts hh).2.2.2.1, (head_parts hh).2.2.2.2⟩
theorem mostTo_le {ls : List Lev} (h : rightB ls = true) : ∀ k, k ≤ ls.length → mostTo ls k ≤ 1000000
  | 0, _ => by unfold mostTo; simp
  | k + 1, hk => by
    have h1 := mostTo_le h k (by omega)
    have h2 := (right_cents h k hk).2
    rw [mostTo_succ ls hk]
    omega
theorem grows_more (ls : List Lev) (l : List UInt8) (c : UInt8) (hl : l.length ≤ 120) (h : HasPlan ls (mail25 (codesOf l))) (h' : HasPlan ls (mail25 (codesOf (l ++ [c])))) : savesM ls (mail25 (codesOf l)) ≤ savesM ls (mail25 (codesOf (l ++ [c]))) := by
  have e : codesOf (l ++ [c]) = codesOf l ++ [code5 c] := by
    unfold codesOf
    rw [List.take_of_length_le (by simp; omega), List.take_of_length_le (by omega), List.map_append]; rfl
  rw [e] at h' ⊢
  rw [saves_best, saves_best]
  exact more_saves (has_fit h) (has_fit h')
theorem grows_half {ls : List Lev} {cs : List ByteArray} (h : HasPlan ls (mail25 cs)) : savesM ls (mail25 cs) ≤ savesM (ls.map half) (mail25 cs) := by
  rw [saves_best, saves_best]
  exact less_saves (has_fit h) (has_fit (half_has h)) (half_sib ls) (half_less h.right)
theorem grows_low (B : Bits) (low cents l : List UInt8) : savesM ((madeR B low cents).map half) (mail25 (codesOf l)) ≤ savesM (madeR B [] cents) (mail25 (codesOf l)) := by
  have h := made_has B low cents l
  have h' := made_has B [] cents l
  have hs : Sib ((madeR B low cents).map half) (madeR B [] cents) := (half_sib _).symm.trans (made_sib B low cents)
  rw [saves_best, saves_best]
  refine less_saves (has_fit (half_has h)) (has_fit h') hs (fun i hi hi' => ?_)
  have h1 := made_one B cents _ (List.getElem_mem hi')
  have hl := hs.len
  rw [List.length_map] at hl
  have hi0 : i < (madeR B low cents).length := by omega
  rw [List.getElem_map]
  show (madeR B [] cents)[i].min ≤ ((madeR B low cents)[i].min + 1) / 2
  by_cases e : i + 1 = (madeR B [] cents).length
  · have z := last_min h'.right (by omega)
    have z0 := last_min h.right (by omega)
    have ei : i = (madeR B [] cents).length - 1 := by omega
    have ei0 : i = (madeR B low cents).length - 1 := by omega
    have e1 : (madeR B [] cents)[i].min = 0 := by simp only [ei]; exact z
    have e2 : (madeR B low cents)[i].min = 0 := by simp only [ei0]; exact z0
    omega
  · have := (mid_min h.right (i := i) (by omega)).1
    omega
theorem grows_all (B : Bits) (cents l : List UInt8) : savesM (madeR B [] cents) (mail25 (codesOf l)) = mostTo (madeR B [] cents) (madeR B [] cents).length * (codesOf l).length := by
  have h := made_has B [] cents l
  have hlen := right_len h.right
  obtain ⟨g1, g2⟩ := mostTo_ge (madeR B [] cents) _ (Nat.le_refl _)
  rw [saves_best]
  have hone : ∀ i (hi : i < (madeR B [] cents).length), (madeR B [] cents)[i].min ≤ 1 := fun i hi => made_one B cents _ (List.getElem_mem hi)
  obtain ⟨j, hj, hc⟩ : ∃ j, ∃ (hj : j < (madeR B [] cents).length), (madeR B [] cents)[j].cents = mostTo (madeR B [] cents) (madeR B [] cents).length := by
    rcases mostTo_at (madeR B [] cents) _ (Nat.le_refl _) with e | e
    · have h0 := (right_cents h.right 0 (by omega)).1
      have h1 := g2 0 (by omega) (by omega)
      exact ⟨0, by omega, by omega⟩
    · exact e
  exact all_most (has_fit h) hone hj hc (fun i hi => g2 i hi hi)
end Go.Proofs.Ytpieagaggjngjaa
