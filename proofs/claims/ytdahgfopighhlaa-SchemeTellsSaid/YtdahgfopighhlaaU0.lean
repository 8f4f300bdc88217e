/-
  Plain laws: what the reference of layer 23 asks of two levels is what the program asks.
-/
import Derived.Test.YtdahgfopighhlaaS8
namespace Go.Proofs.Ytdahgfopighhlaa
open Go.RowKit
set_option linter.unusedVariables false
/-- The reference's group of a prefix. -/
def refGrp (l : Lev) (p : ByteArray) : ByteArray := (labOf l.labs p).getD p
def selfB (l : Lev) (x : Lab) : Bool := decide ((x.grp.size : Int) = l.pre) && plainB x.grp
def allL1 (l : Lev) (x : Lab) : List ByteArray := x.pre :: if selfB l x then [x.grp] else []
/-- The prefixes that the reference compares, of the first k labels. -/
def allTo (l : Lev) (k : Nat) : List ByteArray := (l.labs.take k).flatMap (allL1 l)
theorem allTo_succ (l : Lev) (k : Nat) (h : k < l.labs.length) : allTo l (k + 1) = allTo l k ++ allL1 l l.labs[k] := by
  unfold allTo; rw [List.take_succ_eq_append_getElem h, List.flatMap_append, List.flatMap_cons, List.flatMap_nil, List.append_nil]
theorem allTo_len (l : Lev) (k : Nat) : (allTo l k).length ≤ 2 * k := by
  induction k with
  | zero => simp [allTo]
  | succ k ih =>
    by_cases h : k < l.labs.length
    · rw [allTo_succ l k h, List.length_append]
      have : (allL1 l l.labs[k]).length ≤ 2 := by unfold allL1; split <;> simp
      omega
    · have : allTo l (k + 1) = allTo l k := by unfold allTo; rw [List.take_of_length_le (by omega), List.take_of_length_le (by omega)]
      rw [this]; omega
def allL (l : Lev) : List ByteArray := allTo l l.labs.length
theorem mem_allL {l : Lev} {a : ByteArray} : a ∈ allL l ↔ ∃ x ∈ l.labs, a = x.pre ∨ (selfB l x = true ∧ a = x.grp) := by
  unfold allL allTo
  rw [List.take_of_length_le (Nat.le_refl _), List.mem_flatMap]
  constructor
  · rintro ⟨x, hx, ha⟩
    refine ⟨x, hx, ?_⟩
    unfold allL1 at ha
    rcases List.mem_cons.1 ha with rfl | ha
    · exact .inl rfl
    · cases hs : selfB l x
      · rw [hs] at ha; simp at ha
      · rw [hs] at ha; exact .inr ⟨rfl, by simpa using ha⟩
  · rintro ⟨x, hx, rfl | ⟨hs, rfl⟩⟩
    · exact ⟨x, hx, List.mem_cons_self⟩
    · exact ⟨x, hx, by unfold allL1; rw [hs]; simp⟩
/-- Two prefixes of a level fit: the same group here, the same group at the next level. -/
def fitR (l next : Lev) (a b : ByteArray) : Prop := refGrp l a = refGrp l b → refGrp next (a.extract 0 next.pre.toNat) = refGrp next (b.extract 0 next.pre.toNat)
def nestR (l next : Lev) (n : Nat) : Prop := ∀ i k, k < i → i < n → fitR l next ((allL l).getD i ⟨#[]⟩) ((allL l).getD k ⟨#[]⟩)
theorem getD_mem {l : List ByteArray} {i : Nat} (h : i < l.length) : l.getD i ⟨#[]⟩ ∈ l := by
  rw [List.getD_eq_getElem?_getD, List.getElem?_eq_getElem h]; exact List.getElem_mem h
theorem nest_all {l next : Lev} : nestR l next (allL l).length ↔ ∀ a ∈ allL l, ∀ b ∈ allL l, refGrp l a = refGrp l b → grpOf next a = grpOf next b := by
  constructor
  · intro h a ha b hb e
    obtain ⟨i, hi, rfl⟩ := List.mem_iff_getElem.1 ha
    obtain ⟨k, hk, rfl⟩ := List.mem_iff_getElem.1 hb
    have gi : (allL l).getD i ⟨#[]⟩ = (allL l)[i] := by rw [List.getD_eq_getElem?_getD, List.getElem?_eq_getElem hi]; rfl
    have gk : (allL l).getD k ⟨#[]⟩ = (allL l)[k] := by rw [List.getD_eq_getElem?_getD, List.getElem?_eq_getElem hk]; rfl
    rcases Nat.lt_trichotomy i k with hlt | rfl | hlt
    · have := h k i hlt hk
      rw [gi, gk] at this
      exact (this e.symm).symm
    · rfl
    · have := h i k hlt hi
      rw [gi, gk] at this
      exact this e
  · intro h i k hki hi e
    exact h _ (getD_mem hi) _ (getD_mem (by omega)) e
theorem labOf_some {labs : List Lab} {p g : ByteArray} (h : labOf labs p = some g) : ∃ y ∈ labs, y.pre = p ∧ y.grp = g := by
  unfold labOf at h
  rw [Option.map_eq_some_iff] at h
  obtain ⟨y, hy, rfl⟩ := h
  exact ⟨y, List.mem_of_find?_eq_some hy, by simpa using List.find?_some hy, rfl⟩
theorem nest_ref {l next : Lev} (hs : sortedB l.labs) : nestR l next (allL l).length ↔ nestedP l next := by
  rw [nest_all]
  have lab_in : ∀ x ∈ l.labs, labOf l.labs x.pre = some x.grp := fun x hx => by
    obtain ⟨i, hi, rfl⟩ := List.mem_iff_getElem.1 hx
    exact labOf_at hs hi
  have own_self : ∀ x, ownB l x = (selfB l x && (labOf l.labs x.grp).isNone) := fun x => rfl
  have p2e : ∀ q ∈ l.labs.flatMap (pairsL l), q.2 ∈ allL l ∧ refGrp l q.2 = q.1 := fun q hq => by
    obtain ⟨x, hx, hq⟩ := List.mem_flatMap.1 hq
    unfold pairsL at hq
    rcases List.mem_cons.1 hq with rfl | hq
    · exact ⟨mem_allL.2 ⟨x, hx, .inl rfl⟩, by unfold refGrp; rw [lab_in x hx]; rfl⟩
    · cases ho : ownB l x
      · rw [ho] at hq; simp at hq
      · rw [ho] at hq
        have : q = (x.grp, x.grp) := by simpa using hq
        subst this
        rw [own_self, Bool.and_eq_true, Option.isNone_iff_eq_none] at ho
        exact ⟨mem_allL.2 ⟨x, hx, .inr ⟨ho.1, rfl⟩⟩, by unfold refGrp; rw [ho.2]; rfl⟩
  have e2p : ∀ a ∈ allL l, (refGrp l a, a) ∈ l.labs.flatMap (pairsL l) := fun a ha => by
    obtain ⟨x, hx, h⟩ := mem_allL.1 ha
    rw [List.mem_flatMap]
    rcases h with rfl | ⟨hs', rfl⟩
    · refine ⟨x, hx, ?_⟩
      unfold refGrp; rw [lab_in x hx]
      exact List.mem_cons_self
    · cases hl : labOf l.labs x.grp with
      | none =>
        refine ⟨x, hx, ?_⟩
        have ho : ownB l x = true := by rw [own_self, hs', hl]; rfl
        unfold refGrp pairsL; rw [hl, ho]; simp
      | some g =>
        obtain ⟨y, hy, h1, h2⟩ := labOf_some hl
        refine ⟨y, hy, ?_⟩
        unfold refGrp; rw [hl]
        show (g, x.grp) ∈ pairsL l y
        rw [← h1, ← h2]
        exact List.mem_cons_self
  constructor
  · intro h x hx y hy e
    obtain ⟨a1, a2⟩ := p2e x hx
    obtain ⟨b1, b2⟩ := p2e y hy
    exact h _ a1 _ b1 (by rw [a2, b2]; exact e)
  · intro h a ha b hb e
    exact h (_, a) (e2p a ha) (_, b) (e2p b hb) e
end Go.Proofs.Ytdahgfopighhlaa
