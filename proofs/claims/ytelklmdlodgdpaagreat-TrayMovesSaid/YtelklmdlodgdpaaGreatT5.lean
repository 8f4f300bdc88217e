/-
  Two in a row, in lists made group by group.
-/
import Derived.Test.YtelklmdlodgdpaaGreatT4
namespace Go.Proofs.YtelklmdlodgdpaaGreat
open Go.RowKit
set_option linter.unusedVariables false
set_option maxRecDepth 100000
/-- a stands just ahead of b. -/
def NextIn {α : Type} (L : List α) (a b : α) : Prop := ∃ A C, L = A ++ a :: b :: C
theorem nextIn_at {α : Type} {L : List α} {i : Nat} (h : i + 1 < L.length) : NextIn L (L[i]'(by omega)) L[i + 1] := by
  refine ⟨L.take i, L.drop (i + 2), ?_⟩
  rw [← List.drop_eq_getElem_cons h, ← List.drop_eq_getElem_cons (by omega), List.take_append_drop]
theorem nextIn_append {α : Type} {X Y : List α} {a b : α} (h : NextIn (X ++ Y) a b) : NextIn X a b ∨ NextIn Y a b ∨ (a ∈ X ∧ b ∈ Y) := by
  obtain ⟨A, C, h⟩ := h
  rcases List.append_eq_append_iff.1 h with ⟨B, rfl, hY⟩ | ⟨B, hX, hY⟩
  · exact .inr (.inl ⟨B, C, hY⟩)
  · match B, hX, hY with
    | [], hX, hY =>
      refine .inr (.inl ⟨[], C, ?_⟩)
      simpa using hY.symm
    | [z], hX, hY =>
      simp at hY
      obtain ⟨rfl, hY⟩ := hY
      refine .inr (.inr ⟨by rw [hX]; simp, by rw [← hY]; simp⟩)
    | z :: y :: B, hX, hY =>
      simp at hY
      obtain ⟨rfl, rfl, _⟩ := hY
      exact .inl ⟨A, B, hX⟩
theorem nextIn_flat {α β : Type} (f : α → List β) {R : α → α → Prop} : ∀ (Gs : List α), Gs.Pairwise R → ∀ a b, NextIn (Gs.flatMap f) a b → (∃ x ∈ Gs, NextIn (f x) a b) ∨ ∃ x ∈ Gs, ∃ y ∈ Gs, R x y ∧ a ∈ f x ∧ b ∈ f y
  | [], _, a, b, ⟨A, C, h⟩ => by simp at h
  | x :: r, hR, a, b, h => by
    rw [List.flatMap_cons] at h
    obtain ⟨h1, h2⟩ := List.pairwise_cons.1 hR
    rcases nextIn_append h with h | h | ⟨ha, hb⟩
    · exact .inl ⟨x, List.mem_cons_self, h⟩
    · rcases nextIn_flat f r h2 a b h with ⟨y, hy, h⟩ | ⟨y, hy, z, hz, h⟩
      · exact .inl ⟨y, List.mem_cons_of_mem _ hy, h⟩
      · exact .inr ⟨y, List.mem_cons_of_mem _ hy, z, List.mem_cons_of_mem _ hz, h⟩
    · obtain ⟨y, hy, hb⟩ := List.mem_flatMap.1 hb
      exact .inr ⟨x, List.mem_cons_self, y, List.mem_cons_of_mem _ hy, h1 y hy, ha, hb⟩
theorem nextIn_map {α β : Type} {f : α → β} {L : List α} {a b : β} (h : NextIn (L.map f) a b) : ∃ x y, NextIn L x y ∧ f x = a ∧ f y = b := by
  obtain ⟨A, C, h⟩ := h
  obtain ⟨A', R, rfl, hA, hR⟩ := List.map_eq_append_iff.1 h
  obtain ⟨x, R', rfl, hx, hR'⟩ := List.map_eq_cons_iff.1 hR
  obtain ⟨y, C', rfl, hy, _⟩ := List.map_eq_cons_iff.1 hR'
  exact ⟨x, y, ⟨A', C', rfl⟩, hx, hy⟩
/-- No bundle could have had the first piece of the next one of its group. -/
theorem buns_full {k : Pck} {ps : List Pce} {zs : List Int} {Gs : List Grp} (hk : 1 ≤ k.pieces) (hg0 : 0 ≤ k.grams) (hg : ∀ p ∈ ps, p.grams ≤ k.grams) (hu : IdsUp ps) (h : GrpsIn ps Gs) {a b : Bun} (hn : NextIn (Gs.flatMap (bunsOf k ps zs)) a b) (he : a.lvl = b.lvl) (he' : a.grp = b.grp) :
    ∃ i : Int, 0 ≤ i ∧ i.toNat < ps.length ∧ b.ids.head? = some (pcAt ps i).id ∧ ¬ ((a.ids.length : Int) < k.pieces ∧ a.grams + (pcAt ps i).grams ≤ k.grams) := by
  rcases nextIn_flat (bunsOf k ps zs) Gs h.order a b hn with ⟨x, hx, hn⟩ | ⟨x, hx, y, hy, hxy, ha, hb⟩
  · obtain ⟨l, m, hlm, rfl, rfl⟩ := nextIn_map hn
    obtain ⟨A, C, hc⟩ := hlm
    have hgi : ∀ i ∈ takesOf zs x, (pcAt ps i).grams ≤ k.grams := fun i hi => by
      obtain ⟨h0, h1⟩ := (h.items x hx).2 i (List.mem_filter.1 hi).1
      unfold pcAt
      rw [List.getD_eq_getElem?_getD, List.getElem?_eq_getElem h1]
      exact hg _ (List.getElem_mem h1)
    obtain ⟨c1, c2, c3⟩ := cuts_ok hk hg0 (takesOf zs x) hgi
    have hm : m ∈ cuts k ps (takesOf zs x) := by rw [hc]; simp
    obtain ⟨i, r, rfl⟩ := List.exists_cons_of_ne_nil (c2 m hm).1
    have hi : i ∈ takesOf zs x := by
      rw [← c1]
      exact List.mem_flatten.2 ⟨_, hm, List.mem_cons_self⟩
    obtain ⟨h0, h1⟩ := (h.items x hx).2 i (List.mem_filter.1 hi).1
    refine ⟨i, h0, h1, rfl, ?_⟩
    have := c3 A l (i :: r) C hc i rfl
    unfold fitsP at this
    show ¬ (((l.map _).length : Int) < k.pieces ∧ gramsOf ps l + _ ≤ k.grams)
    rw [List.length_map]
    exact this
  · obtain ⟨a1, a2, _⟩ := (bunsOf_in (zs := zs) hk hg0 hg hu h hx).2 a ha
    obtain ⟨b1, b2, _⟩ := (bunsOf_in (zs := zs) hk hg0 hg hu h hy).2 b hb
    rcases hxy with hxy | ⟨_, hxy⟩
    · omega
    · exact absurd (by rw [← a2, ← b2]; exact he') (ltB_ne hxy)
end Go.Proofs.YtelklmdlodgdpaaGreat
