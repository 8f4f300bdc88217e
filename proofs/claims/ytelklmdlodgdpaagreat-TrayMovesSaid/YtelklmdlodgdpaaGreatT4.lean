/-
  Bundles are in the order of the groups, pieces in the order of their IDs; no bundle could have had the next one's first piece.
-/
import Derived.Test.YtelklmdlodgdpaaGreatT3
import Derived.Test.YtelklmdlodgdpaaGreatGC
namespace Go.Proofs.YtelklmdlodgdpaaGreat
open Go.RowKit
set_option linter.unusedVariables false
set_option maxRecDepth 100000
/-- How two bundles stand, the one ahead of the other. -/
def BunLe (a b : Bun) : Prop := a.lvl < b.lvl ∨ a.lvl = b.lvl ∧ (ltB a.grp b.grp = true ∨ a.grp = b.grp ∧ ∀ i ∈ a.ids, ∀ j ∈ b.ids, i < j)
/-- Groups in order, with items in order. -/
structure GrpsIn (ps : List Pce) (Gs : List Grp) : Prop where
  order : Gs.Pairwise (fun g h => g.lvl < h.lvl ∨ g.lvl = h.lvl ∧ ltB g.name h.name = true)
  items : ∀ x ∈ Gs, x.items.Pairwise (· < ·) ∧ ∀ i ∈ x.items, 0 ≤ i ∧ i.toNat < ps.length
/-- The IDs grow with the index. -/
def IdsUp (ps : List Pce) : Prop := ∀ i j, i < j → j < ps.length → (pcAt ps (i : Nat)).id < (pcAt ps (j : Nat)).id
theorem takes_sorted {ps : List Pce} {Gs : List Grp} (hu : IdsUp ps) (h : GrpsIn ps Gs) (zs : List Int) {x : Grp} (hx : x ∈ Gs) : (takesOf zs x).Pairwise (fun i j => (pcAt ps i).id < (pcAt ps j).id) := by
  obtain ⟨h1, h2⟩ := h.items x hx
  unfold takesOf
  refine List.Pairwise.filter _ ?_
  refine List.Pairwise.imp_of_mem ?_ h1
  intro a b ha hb hab
  obtain ⟨a0, a1⟩ := h2 a ha
  obtain ⟨b0, b1⟩ := h2 b hb
  have := hu a.toNat b.toNat (by omega) b1
  rwa [Int.toNat_of_nonneg a0, Int.toNat_of_nonneg b0] at this
theorem bunsOf_in {k : Pck} {ps : List Pce} {zs : List Int} {Gs : List Grp} (hk : 1 ≤ k.pieces) (hg0 : 0 ≤ k.grams) (hg : ∀ p ∈ ps, p.grams ≤ k.grams) (hu : IdsUp ps) (h : GrpsIn ps Gs) {x : Grp} (hx : x ∈ Gs) :
    (bunsOf k ps zs x).Pairwise (fun a b => ∀ i ∈ a.ids, ∀ j ∈ b.ids, i < j) ∧ ∀ b ∈ bunsOf k ps zs x, b.lvl = x.lvl ∧ b.grp = x.name ∧ b.ids ≠ [] ∧ (b.ids.length : Int) ≤ k.pieces ∧ b.grams ≤ k.grams ∧ b.ids.Pairwise (· < ·) := by
  have hgi : ∀ i ∈ takesOf zs x, (pcAt ps i).grams ≤ k.grams := fun i hi => by
    obtain ⟨h0, h1⟩ := (h.items x hx).2 i (List.mem_filter.1 hi).1
    unfold pcAt
    rw [List.getD_eq_getElem?_getD, List.getElem?_eq_getElem h1]
    exact hg _ (List.getElem_mem h1)
  obtain ⟨c1, c2, _⟩ := cuts_ok hk hg0 (takesOf zs x) hgi
  have hs := takes_sorted hu h zs hx
  rw [← c1, List.pairwise_flatten] at hs
  obtain ⟨hs1, hs2⟩ := hs
  unfold bunsOf
  refine ⟨?_, fun b hb => ?_⟩
  · rw [List.pairwise_map]
    refine List.Pairwise.imp ?_ hs2
    intro a b hab i hi j hj
    obtain ⟨i', hi', rfl⟩ := List.mem_map.1 hi
    obtain ⟨j', hj', rfl⟩ := List.mem_map.1 hj
    exact hab i' hi' j' hj'
  · obtain ⟨l, hl, rfl⟩ := List.mem_map.1 hb
    obtain ⟨h1, h2, h3⟩ := c2 l hl
    refine ⟨rfl, rfl, ?_, ?_, h3, ?_⟩
    · show l.map _ ≠ []
      intro e
      exact h1 (List.map_eq_nil_iff.1 e)
    · show ((l.map _).length : Int) ≤ _
      rw [List.length_map]; exact h2
    · show (l.map _).Pairwise _
      rw [List.pairwise_map]
      exact hs1 l hl
theorem buns_order {k : Pck} {ps : List Pce} {zs : List Int} {Gs : List Grp} (hk : 1 ≤ k.pieces) (hg0 : 0 ≤ k.grams) (hg : ∀ p ∈ ps, p.grams ≤ k.grams) (hu : IdsUp ps) (h : GrpsIn ps Gs) : (Gs.flatMap (bunsOf k ps zs)).Pairwise BunLe := by
  rw [List.pairwise_flatMap]
  refine ⟨fun x hx => ?_, ?_⟩
  · obtain ⟨h1, h2⟩ := bunsOf_in (zs := zs) hk hg0 hg hu h hx
    refine List.Pairwise.imp_of_mem ?_ h1
    intro a b ha hb hab
    obtain ⟨a1, a2, _⟩ := h2 a ha
    obtain ⟨b1, b2, _⟩ := h2 b hb
    exact .inr ⟨by rw [a1, b1], .inr ⟨by rw [a2, b2], hab⟩⟩
  · refine List.Pairwise.imp_of_mem ?_ h.order
    intro x y hx hy hxy a ha b hb
    obtain ⟨a1, a2, _⟩ := (bunsOf_in (zs := zs) hk hg0 hg hu h hx).2 a ha
    obtain ⟨b1, b2, _⟩ := (bunsOf_in (zs := zs) hk hg0 hg hu h hy).2 b hb
    rcases hxy with hxy | ⟨h1, h2⟩
    · exact .inl (by rw [a1, b1]; exact hxy)
    · exact .inr ⟨by rw [a1, b1]; exact h1, .inl (by rw [a2, b2]; exact h2)⟩
/-- What TrayOrder asks of two bundles in a row. -/
theorem bunLe_says {a b : Bun} (h : BunLe a b) : ¬ (b.lvl < a.lvl) ∧ ¬ (a.lvl = b.lvl ∧ ltB b.grp a.grp = true) ∧ (a.lvl = b.lvl → a.grp = b.grp → ∀ i ∈ a.ids, ∀ j ∈ b.ids, i < j) := by
  rcases h with h | ⟨h1, h2 | ⟨h2, h3⟩⟩
  · exact ⟨by omega, fun ⟨e, _⟩ => by omega, fun e => by omega⟩
  · refine ⟨by omega, fun ⟨_, e⟩ => ?_, fun _ e => absurd e (ltB_ne h2)⟩
    have := ltB_asymm h2
    rw [this] at e
    cases e
  · refine ⟨by omega, fun ⟨_, e⟩ => ?_, fun _ _ => h3⟩
    rw [h2, ltB_irrefl] at e
    cases e
theorem gAll_in {ls : List Lev} {cs : List ByteArray} {ps : List Pce} (h : cs.length = ps.length) : GrpsIn ps (gAll ls cs ls.length) := by
  refine ⟨gAll_order ls cs ls.length, fun x hx => ?_⟩
  obtain ⟨m, n, hm, hn, rfl⟩ := mem_gAll.1 hx
  refine ⟨itm_order ls cs m n, fun i hi => ?_⟩
  obtain ⟨q, hq, _, rfl⟩ := mem_itm.1 hi
  omega
end Go.Proofs.YtelklmdlodgdpaaGreat
