/-
  A packed load, with all that the rows ask of it.
-/
import Derived.Test.YtelklmdlodgdpaaGreatTS
namespace Go.Proofs.YtelklmdlodgdpaaGreat
open Go.RowKit
set_option linter.unusedVariables false
set_option maxRecDepth 100000
noncomputable def lodP (k : Pck) (ps : List Pce) (zs : List Int) (Gs : List Grp) : Lod := ⟨(pkTo k ps zs Gs Gs.length).buns, (pkTo k ps zs Gs Gs.length).tras, (pkTo k ps zs Gs Gs.length).cons⟩
structure Pkd (k : Pck) (ps : List Pce) (zs : List Int) (ns : List ByteArray) (l : Lod) : Prop where
  ok : LodOk k ps zs ns l
  ord : l.buns.Pairwise BunLe
  own : ∀ b ∈ l.buns, b.ids ≠ [] ∧ b.ids.Pairwise (· < ·) ∧ ∀ i ∈ b.ids, 0 < i ∧ i ≤ 999999
  nb : l.tras.flatMap (fun t => t.bs) = numsR 0 l.buns.length
  nt : l.cons.flatMap (fun c => c.ts) = numsR 0 l.tras.length
  bf : ∀ a b, NextIn l.buns a b → a.lvl = b.lvl → a.grp = b.grp → ∃ i : Int, 0 ≤ i ∧ i.toNat < ps.length ∧ b.ids.head? = some (pcAt ps i).id ∧ ¬ ((a.ids.length : Int) < k.pieces ∧ a.grams + (pcAt ps i).grams ≤ k.grams)
  tf : ∀ a b, NextIn l.tras a b → a.lvl = b.lvl → a.grp = b.grp → (a.bs.length : Int) = k.bundles
  cf : ∀ a b, NextIn l.cons a b → a.lvl = b.lvl → (a.ts.length : Int) = k.trays
  lens : l.buns.length ≤ ps.length ∧ l.tras.length ≤ ps.length ∧ l.cons.length ≤ ps.length
  idn : (l.buns.flatMap (fun b => b.ids)).length = ps.length
theorem pcAt_nat {ps : List Pce} {q : Nat} (hq : q < ps.length) : pcAt ps (q : Int) = ps[q] := by
  unfold pcAt
  rw [Int.toNat_natCast, List.getD_eq_getElem?_getD, List.getElem?_eq_getElem hq]; rfl
theorem pcAt_memN {ps : List Pce} {i : Int} (h : i.toNat < ps.length) : pcAt ps i ∈ ps := by
  unfold pcAt
  rw [List.getD_eq_getElem?_getD, List.getElem?_eq_getElem h]
  exact List.getElem_mem h
theorem pkd_of {ls : List Lev} {m : Mai} (h : HasPlan ls m) {zs : List Int} (hzl : zs.length = m.ps.length) (hn : numsB ls.length zs = true) {k : Pck} (hk : pckB k = true) (hkg : ∀ p ∈ m.ps, p.grams ≤ k.grams) :
    Pkd k m.ps zs (nmTo zs (gAll ls (codesM m.ps) ls.length) m.ps.length (gAll ls (codesM m.ps) ls.length).length) (lodP k m.ps zs (gAll ls (codesM m.ps) ls.length)) := by
  obtain ⟨hidg, hu⟩ := mail_ids h.mail
  have hcl : (codesM m.ps).length = m.ps.length := codesM_len _
  have hG : GrpsIn m.ps (gAll ls (codesM m.ps) ls.length) := gAll_in hcl
  have hO : OwnIn m.ps zs (gAll ls (codesM m.ps) ls.length) := gAll_own hcl hzl hn
  have hkk : (1 ≤ k.pieces ∧ k.pieces ≤ 2000 ∧ 1 ≤ k.grams ∧ k.grams ≤ 1000000) ∧ (1 ≤ k.bundles ∧ k.bundles ≤ 200 ∧ 1 ≤ k.trays ∧ k.trays ≤ 200) := by
    unfold pckB at hk
    rw [Bool.and_eq_true, decide_eq_true_eq, decide_eq_true_eq] at hk
    exact hk
  obtain ⟨Gs, hGs⟩ : ∃ Gs, Gs = gAll ls (codesM m.ps) ls.length := ⟨_, rfl⟩
  rw [← hGs] at hG hO ⊢
  have hk1 : 1 ≤ k.pieces := hkk.1.1
  have hg0 : 0 ≤ k.grams := by omega
  have hb1 : 1 ≤ k.bundles := hkk.2.1
  have ht1 : 1 ≤ k.trays := by omega
  have hok := pk_ok hb1 ht1 m.ps zs Gs Gs.length (Nat.le_refl _)
  have hF := pk_full hb1 ht1 hG.order (ps := m.ps) (zs := zs) Gs.length (Nat.le_refl _)
  have hl := pk_lodOk hk1 hg0 hb1 ht1 hkg hu hG hO
  have hs := pk_small hk1 hg0 hb1 ht1 hkg hu hG hO Gs.length (Nat.le_refl _)
  have hbn := hok.buns
  rw [List.take_length] at hbn
  have hbeg := hok.fin (.inr (fun h => absurd h (Nat.lt_irrefl _)))
  refine ⟨hl, ?_, ?_, hok.nb, ?_, ?_, hF.tf, hF.cf, ⟨hs.1, hs.2.1, hs.2.2.1⟩, hl.buns.all⟩
  · show (pkTo k m.ps zs Gs Gs.length).buns.Pairwise BunLe
    rw [hbn]
    exact buns_order hk1 hg0 hkg hu hG
  · show ∀ b ∈ (pkTo k m.ps zs Gs Gs.length).buns, _
    intro b hb
    obtain ⟨I, hI, hid, _⟩ := hl.buns.good b hb
    rw [hbn] at hb
    obtain ⟨x, hx, hb⟩ := List.mem_flatMap.1 hb
    have h2 := (bunsOf_in (zs := zs) hk1 hg0 hkg hu hG hx).2 b hb
    refine ⟨h2.2.2.1, h2.2.2.2.2.2, fun i hi => ?_⟩
    rw [hid] at hi
    obtain ⟨j, hj, rfl⟩ := List.mem_map.1 hi
    have := hidg _ (pcAt_memN (hI j hj).2.1)
    exact ⟨this.1, this.2.1⟩
  · show (pkTo k m.ps zs Gs Gs.length).cons.flatMap _ = numsR 0 (pkTo k m.ps zs Gs Gs.length).tras.length
    rw [hok.nt, hbeg]
  · show ∀ a b, NextIn (pkTo k m.ps zs Gs Gs.length).buns a b → _
    rw [hbn]
    intro a b hab h1 h2
    exact buns_full hk1 hg0 hkg hu hG hab h1 h2
theorem Pkd.smallL {k : Pck} {ps : List Pce} {zs : List Int} {ns : List ByteArray} {l : Lod} (h : Pkd k ps zs ns l) (hp : ps.length ≤ 100000) : SmallL l := by
  obtain ⟨h1, h2, h3⟩ := h.lens
  refine ⟨by omega, by omega, by omega, by rw [h.idn]; exact hp, ?_, ?_⟩
  · rw [h.nb, numsR_len]; omega
  · rw [h.nt, numsR_len]; omega
/-- The numbers of a list that is numbered through. -/
theorem flat_atN {α : Type} {f : α → List Int} {L : List α} {n : Nat} (h : L.flatMap f = numsR 0 n) {i : Nat} (hi : i < L.length) {j : Nat} (hj : j < (f L[i]).length) :
    (f L[i])[j] = ((((L.take i).flatMap f).length + j : Nat) : Int) := by
  have h1 : L.flatMap f = (L.take i).flatMap f ++ (f L[i] ++ (L.drop (i + 1)).flatMap f) := by
    conv => lhs; rw [← List.take_append_drop i L, List.drop_eq_getElem_cons hi]
    rw [List.flatMap_append, List.flatMap_cons]
  have h2 : (L.flatMap f)[((L.take i).flatMap f).length + j]? = some ((f L[i])[j]) := by
    rw [h1, List.getElem?_append_right (by omega), Nat.add_sub_cancel_left, List.getElem?_append_left hj, List.getElem?_eq_getElem hj]
  rw [h] at h2
  obtain ⟨h3, h4⟩ := List.getElem?_eq_some_iff.1 h2
  rw [← h4, numsR_at, Nat.zero_add]
theorem flat_succ {α : Type} (f : α → List Int) (L : List α) {i : Nat} (hi : i < L.length) : ((L.take (i + 1)).flatMap f).length = ((L.take i).flatMap f).length + (f L[i]).length := by
  rw [List.take_succ_eq_append_getElem hi, List.flatMap_append, List.length_append]; simp
end Go.Proofs.YtelklmdlodgdpaaGreat
