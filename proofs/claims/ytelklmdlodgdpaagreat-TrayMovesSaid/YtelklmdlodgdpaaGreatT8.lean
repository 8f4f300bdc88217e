/-
  The groups of a right scheme serve a packing; what is packed is small; right mailings.
-/
import Derived.Test.YtelklmdlodgdpaaGreatT7
import Derived.Test.YtelklmdlodgdpaaGreatGX
namespace Go.Proofs.YtelklmdlodgdpaaGreat
open Go.RowKit
set_option linter.unusedVariables false
set_option maxRecDepth 100000
theorem gAll_own {ls : List Lev} {cs : List ByteArray} {ps : List Pce} {zs : List Int} (h : cs.length = ps.length) (hz : zs.length = ps.length) (hn : numsB ls.length zs = true) : OwnIn ps zs (gAll ls cs ls.length) := by
  refine ⟨fun i hi => ?_, fun x hx y hy hl i h1 h2 => ?_⟩
  · obtain ⟨h0, h1⟩ := nums_at hn i (by omega)
    obtain ⟨m, hm⟩ : ∃ m : Nat, zs[i]'(by omega) = (m : Int) := ⟨_, (Int.toNat_of_nonneg h0).symm⟩
    have hic : i < cs.length := by omega
    refine ⟨gAt ls cs ls.length m (grpOf (lv ls m) cs[i]), mem_gAll.2 ⟨m, _, by omega, nm_of hic, rfl⟩, ?_, ?_⟩
    · rw [List.getD_eq_getElem?_getD, List.getElem?_eq_getElem (by omega), Option.getD_some, hm]; rfl
    · exact mem_itm.2 ⟨i, hic, rfl, rfl⟩
  · obtain ⟨m, n, hm, hn, rfl⟩ := mem_gAll.1 hx
    obtain ⟨m', n', hm', hn', rfl⟩ := mem_gAll.1 hy
    have e : (m : Int) = (m' : Int) := hl
    obtain rfl : m = m' := by omega
    obtain ⟨j, hj, h3, rfl⟩ := mem_itm.1 h1
    obtain ⟨j', hj', h4, h5⟩ := mem_itm.1 h2
    obtain rfl : j = j' := by omega
    rw [← h3, ← h4]
theorem flat_ge {α : Type} : ∀ L : List (List α), (∀ l ∈ L, 1 ≤ l.length) → L.length ≤ L.flatten.length
  | [], _ => Nat.le_refl _
  | l :: r, h => by
    have := flat_ge r (fun x hx => h x (List.mem_cons_of_mem _ hx))
    have := h l List.mem_cons_self
    rw [List.length_cons, List.flatten_cons, List.length_append]
    omega
theorem take_flat {α β : Type} (f : α → List β) (L : List α) (n : Nat) : ((L.take n).flatMap f).length ≤ (L.flatMap f).length := by
  conv => rhs; rw [← List.take_append_drop n L, List.flatMap_append, List.length_append]
  omega
/-- What is packed is small. -/
theorem pk_small {k : Pck} {ps : List Pce} {zs : List Int} {Gs : List Grp} (hk : 1 ≤ k.pieces) (hg0 : 0 ≤ k.grams) (hb : 1 ≤ k.bundles) (ht : 1 ≤ k.trays) (hg : ∀ p ∈ ps, p.grams ≤ k.grams) (hu : IdsUp ps) (hG : GrpsIn ps Gs) (ho : OwnIn ps zs Gs) (n : Nat) (hn : n ≤ Gs.length) :
    (pkTo k ps zs Gs n).buns.length ≤ ps.length ∧ (pkTo k ps zs Gs n).tras.length ≤ ps.length ∧ (pkTo k ps zs Gs n).cons.length ≤ ps.length ∧ (pkTo k ps zs Gs n).beg ≤ (pkTo k ps zs Gs n).tras.length := by
  have hok := pk_ok hb ht ps zs Gs n hn
  have hF := pk_full hb ht hG.order (ps := ps) (zs := zs) n hn
  have hids := buns_ids (zs := zs) hk hg0 hg hG
  have hperm := takes_perm hG ho
  have h1 : (pkTo k ps zs Gs n).buns.length ≤ ps.length := by
    rw [hok.buns]
    refine Nat.le_trans (take_flat _ _ _) ?_
    have h2 := flat_ge ((Gs.flatMap (bunsOf k ps zs)).map (fun b => b.ids)) (fun l hl => by
      obtain ⟨b, hb, rfl⟩ := List.mem_map.1 hl
      obtain ⟨x, hx, hb⟩ := List.mem_flatMap.1 hb
      exact List.length_pos_iff.2 ((bunsOf_in (zs := zs) hk hg0 hg hu hG hx).2 b hb).2.2.1)
    rw [flat_bs, hids, List.length_map, List.length_map, hperm.length_eq, (nums_once _).2.1] at h2
    exact h2
  have h2 := flat_ge ((pkTo k ps zs Gs n).tras.map (fun t => t.bs)) (fun l hl => by
    obtain ⟨t, ht, rfl⟩ := List.mem_map.1 hl
    exact (hF.tl t ht).1)
  rw [flat_bs, hok.nb, (nums_once _).2.1, List.length_map] at h2
  have h3 := flat_ge ((pkTo k ps zs Gs n).cons.map (fun t => t.ts)) (fun l hl => by
    obtain ⟨t, ht, rfl⟩ := List.mem_map.1 hl
    exact (hF.cl t ht).1)
  rw [flat_bs, hok.nt, (nums_once _).2.1, List.length_map] at h3
  have h4 := hok.beg
  exact ⟨h1, by omega, by omega, h4⟩
theorem pcs_ids : ∀ (ps : List Pce) (b : Int), pcsB b ps = true → (∀ p ∈ ps, b < p.id ∧ p.id ≤ 999999 ∧ 1 ≤ p.grams ∧ p.grams ≤ 50000) ∧ ps.Pairwise (fun p q => p.id < q.id)
  | [], _, _ => ⟨by simp, List.Pairwise.nil⟩
  | p :: r, b, h => by
    unfold pcsB at h
    rw [Bool.and_eq_true] at h
    obtain ⟨h1, h2⟩ := h
    obtain ⟨h3, h4⟩ := pcs_ids r p.id h2
    unfold pcB at h1
    simp only [Bool.and_eq_true, decide_eq_true_eq] at h1
    obtain ⟨⟨a1, a2, _⟩, _, a3, a4⟩ := h1
    refine ⟨fun q hq => ?_, List.pairwise_cons.2 ⟨fun q hq => (h3 q hq).1, h4⟩⟩
    rcases List.mem_cons.1 hq with rfl | hq
    · exact ⟨a1, a2, a3, a4⟩
    · obtain ⟨b1, b2⟩ := h3 q hq
      exact ⟨by omega, b2⟩
theorem mail_ids {m : Mai} (h : mailB m = true) : (∀ p ∈ m.ps, 0 < p.id ∧ p.id ≤ 999999 ∧ 1 ≤ p.grams ∧ p.grams ≤ 50000) ∧ IdsUp m.ps := by
  unfold mailB at h
  simp only [Bool.and_eq_true] at h
  obtain ⟨h1, h2⟩ := pcs_ids m.ps 0 h.2.2.2
  refine ⟨h1, fun i j hij hj => ?_⟩
  have e : ∀ q : Nat, (hq : q < m.ps.length) → pcAt m.ps (q : Int) = m.ps[q] := fun q hq => by
    unfold pcAt
    rw [Int.toNat_natCast, List.getD_eq_getElem?_getD, List.getElem?_eq_getElem hq]; rfl
  rw [e i (by omega), e j hj]
  exact List.pairwise_iff_getElem.1 h2 i j (by omega) hj hij
end Go.Proofs.YtelklmdlodgdpaaGreat
