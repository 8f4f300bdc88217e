/-
  What is known of a packed load: bundles group by group, bundles and trays numbered through.
-/
import Derived.Test.YtelklmdlodgdpaaGreatGY
namespace Go.Proofs.YtelklmdlodgdpaaGreat
open Go.RowKit
set_option linter.unusedVariables false
set_option maxRecDepth 100000
structure PkOk (k : Pck) (ps : List Pce) (zs : List Int) (Gs : List Grp) (n : Nat) (st : PkS) : Prop where
  buns : st.buns = (Gs.take n).flatMap (bunsOf k ps zs)
  nb : st.tras.flatMap (fun t => t.bs) = numsR 0 st.buns.length
  nt : st.cons.flatMap (fun c => c.ts) = numsR 0 st.beg
  beg : st.beg ≤ st.tras.length
  fin : (n = 0 ∨ (∀ h : n < Gs.length, Gs[n].lvl ≠ (Gs.getD (n - 1) Gs[n]).lvl)) → st.beg = st.tras.length
theorem flat_map_bs {α : Type} (l : List (List Int)) (f : List Int → α) (g : α → List Int) (h : ∀ x, g (f x) = x) : (l.map f).flatMap g = l.flatten := by
  induction l with
  | nil => rfl
  | cons x r ih => rw [List.map_cons, List.flatMap_cons, h, ih, List.flatten_cons]
theorem pk_ok {k : Pck} (hb : 1 ≤ k.bundles) (ht : 1 ≤ k.trays) (ps : List Pce) (zs : List Int) (Gs : List Grp) : ∀ n, n ≤ Gs.length → PkOk k ps zs Gs n (pkTo k ps zs Gs n)
  | 0, _ => ⟨rfl, by unfold pkTo; simp [numsR_nil], by unfold pkTo; simp [numsR_nil], by unfold pkTo; simp, fun _ => by unfold pkTo; simp⟩
  | n + 1, hn => by
    obtain ⟨h1, h2, h3, h4, h5⟩ := pk_ok hb ht ps zs Gs n (by omega)
    have hlt : n < Gs.length := by omega
    rw [pkTo_succ]
    unfold pkStep
    rw [dif_pos hlt]
    obtain ⟨st, hst⟩ : ∃ st, st = pkTo k ps zs Gs n := ⟨_, rfl⟩
    rw [← hst] at h1 h2 h3 h4 h5 ⊢
    dsimp only
    obtain ⟨bs, hbs⟩ : ∃ bs, bs = st.buns ++ bunsOf k ps zs Gs[n] := ⟨_, rfl⟩
    obtain ⟨ts, hts⟩ : ∃ ts : List Tra, ts = st.tras ++ (shareR st.buns.length bs.length k.bundles.toNat).map (fun l => ⟨Gs[n].lvl, Gs[n].name, l⟩) := ⟨_, rfl⟩
    rw [← hbs, ← hts]
    have hkb : 1 ≤ k.bundles.toNat := by omega
    have hkt : 1 ≤ k.trays.toNat := by omega
    have hbl : st.buns.length ≤ bs.length := by rw [hbs, List.length_append]; omega
    have htl : st.tras.length ≤ ts.length := by rw [hts, List.length_append]; omega
    have e1 : bs = (Gs.take (n + 1)).flatMap (bunsOf k ps zs) := by
      rw [hbs, h1, List.take_succ_eq_append_getElem hlt, List.flatMap_append]
      simp
    have e2 : ts.flatMap (fun t => t.bs) = numsR 0 bs.length := by
      rw [hts, List.flatMap_append, h2, flat_map_bs _ _ _ (fun _ => rfl), share_flat hkb hbl]
      exact numsR_app (Nat.zero_le _) hbl
    have hends : endsL Gs n ↔ (∀ h : n + 1 < Gs.length, Gs[n + 1].lvl ≠ (Gs.getD (n + 1 - 1) Gs[n + 1]).lvl) := by
      unfold endsL
      constructor
      · intro h h'
        rw [Nat.add_sub_cancel, List.getD_eq_getElem?_getD, List.getElem?_eq_getElem hlt]
        exact h h'
      · intro h h'
        have := h h'
        rw [Nat.add_sub_cancel, List.getD_eq_getElem?_getD, List.getElem?_eq_getElem hlt] at this
        exact this
    split
    · refine ⟨e1, e2, ?_, Nat.le_refl _, fun _ => rfl⟩
      show (st.cons ++ _).flatMap _ = _
      rw [List.flatMap_append, h3, flat_map_bs _ _ _ (fun _ => rfl), share_flat hkt (by omega)]
      exact numsR_app (Nat.zero_le _) (by omega)
    · rename_i hne
      refine ⟨e1, e2, h3, by show st.beg ≤ ts.length; omega, fun h => ?_⟩
      rcases h with h | h
      · omega
      · exact absurd (hends.2 h) hne
end Go.Proofs.YtelklmdlodgdpaaGreat
