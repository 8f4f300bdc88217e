/-
  Plain law of PresortSame: a mailing with the same codes.
-/
import Derived.Test.YtpieagaggjngjaaGI
namespace Go.Proofs.Ytpieagaggjngjaa
open Go.RowKit
set_option linter.unusedVariables false
set_option maxRecDepth 100000
/-- The first k pieces have other numbers. -/
structure OthTo (x : Int) (k : Nat) (ps ps' : List Pce) : Prop where
  len : ps'.length = ps.length
  new : ∀ i (h : i < ps.length) (h' : i < ps'.length), i < k → ps'[i].id = 3 * ps[i].id + x ∧ ps'[i].point = x ∧ ps'[i].code = ps[i].code ∧ 1 ≤ ps'[i].grams ∧ ps'[i].grams ≤ 50000
  old : ∀ i (h : i < ps.length) (h' : i < ps'.length), k ≤ i → ps'[i] = ps[i]
theorem OthTo.zero (x : Int) (ps : List Pce) : OthTo x 0 ps ps := ⟨rfl, fun i h h' hk => absurd hk (Nat.not_lt_zero _), fun i h h' _ => rfl⟩
theorem OthTo.step {x : Int} {k : Nat} {ps ps' : List Pce} (h : OthTo x k ps ps') (hk : k < ps.length) {g : Int} (b : Bool) (hg : 1 ≤ g ∧ g ≤ 50000) : OthTo x (k + 1) ps (ps'.set k ⟨3 * ps[k].id + x, x, ps[k].code, g, b⟩) := by
  obtain ⟨h1, h2, h3⟩ := h
  refine ⟨by rw [List.length_set, h1], fun i hi hi' hik => ?_, fun i hi hi' hik => ?_⟩
  · by_cases e : k = i
    · subst e
      rw [List.getElem_set_self]
      exact ⟨rfl, rfl, rfl, hg.1, hg.2⟩
    · rw [List.getElem_set_ne e]
      exact h2 i hi (by omega) (by omega)
  · rw [List.getElem_set_ne (by omega)]
    exact h3 i hi (by omega) (by omega)
theorem OthTo.codes {x : Int} {ps ps' : List Pce} (h : OthTo x ps.length ps ps') : codesM ps' = codesM ps := by
  obtain ⟨h1, h2, _⟩ := h
  unfold codesM
  refine List.ext_getElem (by simp [h1]) (fun i hi hi' => ?_)
  rw [List.getElem_map, List.getElem_map]
  have hi2 : i < ps.length := by simpa using hi'
  exact (h2 i hi2 (by omega) hi2).2.2.1
theorem pcs_oth {x : Int} (hx : 0 ≤ x ∧ x ≤ 65535) : ∀ (ps ps' : List Pce) (b : Int), 0 ≤ b → pcsB b ps = true → (∀ p ∈ ps, p.id ≤ 2000) → ps'.length = ps.length → (∀ i (h : i < ps.length) (h' : i < ps'.length), ps'[i].id = 3 * ps[i].id + x ∧ ps'[i].point = x ∧ ps'[i].code = ps[i].code ∧ 1 ≤ ps'[i].grams ∧ ps'[i].grams ≤ 50000) →
    ∀ b', b' ≤ 3 * b + x → pcsB b' ps' = true
  | [], ps', b, _, _, _, hl, _, b', _ => by
    obtain rfl : ps' = [] := List.length_eq_zero_iff.1 (by simpa using hl)
    rfl
  | p :: r, [], b, _, _, _, hl, _, b', _ => by simp at hl
  | p :: r, p' :: r', b, h0, hp, hid, hl, hn, b', hb => by
    unfold pcsB at hp ⊢
    rw [Bool.and_eq_true] at hp ⊢
    obtain ⟨hp1, hp2⟩ := hp
    have a := hn 0 (by simp) (by simp)
    simp only [List.getElem_cons_zero] at a
    obtain ⟨a1, a2, a3, a4, a5⟩ := a
    have i0 := hid p List.mem_cons_self
    unfold pcB at hp1 ⊢
    simp only [Bool.and_eq_true, decide_eq_true_eq] at hp1 ⊢
    obtain ⟨⟨c1, c2, c3, c4⟩, c5, c6, c7⟩ := hp1
    refine ⟨⟨⟨by omega, by omega, by omega, by omega⟩, by rw [a3]; exact c5, a4, a5⟩, ?_⟩
    refine pcs_oth hx r r' p.id (by omega) hp2 (fun q hq => hid q (List.mem_cons_of_mem _ hq)) (by simpa using hl) (fun i hi hi' => ?_) p'.id (by omega)
    have := hn (i + 1) (by simp; omega) (by simp; omega)
    simpa using this
def z9 : ByteArray := ⟨#[90, 57]⟩
theorem oth_has {x a b : Int} {ls : List Lev} {cs : List ByteArray} {ps' : List Pce} (hx : 0 ≤ x ∧ x ≤ 65535) (ha : 1 ≤ a ∧ a ≤ 255) (hb : 1 ≤ b ∧ b ≤ 3) (h : HasPlan ls (mail25 cs)) (ho : OthTo x (mail25 cs).ps.length (mail25 cs).ps ps') : HasPlan ls ⟨a, b, z9, ps'⟩ := by
  have hm := h.mail
  have hf := h.few
  unfold mailB at hm
  simp only [Bool.and_eq_true, decide_eq_true_eq] at hm
  obtain ⟨_, _, _, hpc⟩ := hm
  have hid : ∀ p ∈ (mail25 cs).ps, p.id ≤ 2000 := fun p hp => by
    have hlm : (mail25 cs).ps.length = cs.length := mailTo_len _ _
    unfold mail25 mailTo at hp
    dsimp only at hp
    obtain ⟨i, hi, rfl⟩ := List.mem_map.1 hp
    have := List.mem_range.1 hi
    show 1 + (i : Int) ≤ 2000
    omega
  refine ⟨h.right, ?_, ⟨by show 0 ≤ a; omega, by show a ≤ 255; omega, by show 0 ≤ b; omega, by show b ≤ 255; omega⟩, by show z9.size ≤ maxLen; decide, ?_⟩
  · unfold mailB
    simp only [Bool.and_eq_true, decide_eq_true_eq]
    refine ⟨⟨ha.1, hb.1, hb.2⟩, by kernel_rfl, by rw [ho.len]; exact hf, ?_⟩
    exact pcs_oth hx _ _ 0 (Int.le_refl _) hpc hid ho.len (fun i hi hi' => ho.new i hi hi' hi) 0 (by omega)
  · have := h.pre
    rw [← ho.codes] at this
    exact this
theorem oth_plan {x a b : Int} {ls : List Lev} {cs : List ByteArray} {ps' : List Pce} (ho : OthTo x (mail25 cs).ps.length (mail25 cs).ps ps') : planM ls ⟨a, b, z9, ps'⟩ = planM ls (mail25 cs) := by
  unfold planM
  rw [ho.codes]
end Go.Proofs.Ytpieagaggjngjaa
