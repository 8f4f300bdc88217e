/-
  Trays and containers: what they hold, and that all but the last of a group, of a level, are full.
-/
import Derived.Test.YtelklmdlodgdpaaGreatT5
namespace Go.Proofs.YtelklmdlodgdpaaGreat
open Go.RowKit
set_option linter.unusedVariables false
set_option maxRecDepth 100000
theorem nextIn_share {α : Type} {f t len : Nat} {g : List Int → α} {a b : α} (h : NextIn ((shareR f t len).map g) a b) : ∃ q, q + 1 < shareN f t len ∧ a = g (shareAt f t len q) ∧ b = g (shareAt f t len (q + 1)) := by
  obtain ⟨A, C, h⟩ := h
  have e1 : ((shareR f t len).map g)[A.length]? = some a := by rw [h]; simp
  have e2 : ((shareR f t len).map g)[A.length + 1]? = some b := by
    rw [h, List.getElem?_append_right (by omega), show A.length + 1 - A.length = 1 by omega]; rfl
  have hl2 : A.length + 1 < shareN f t len := by
    have := congrArg List.length h
    rw [List.length_map, shareR_len] at this
    simp at this; omega
  unfold shareR at e1 e2
  rw [List.map_map, List.getElem?_map, List.getElem?_range (by omega)] at e1 e2
  exact ⟨A.length, hl2, (Option.some.inj e1).symm, (Option.some.inj e2).symm⟩
theorem mem_share {f t len : Nat} (hl : 1 ≤ len) (hft : f ≤ t) {l : List Int} (h : l ∈ shareR f t len) : (1 ≤ l.length ∧ l.length ≤ len) ∧ ∀ i ∈ l, ∃ q : Nat, i = (q : Int) ∧ f ≤ q ∧ q < t := by
  constructor
  · unfold shareR at h
    obtain ⟨q, hq, rfl⟩ := List.mem_map.1 h
    exact shareAt_len hl (List.mem_range.1 hq)
  · intro i hi
    have : i ∈ (shareR f t len).flatten := List.mem_flatten.2 ⟨l, h, hi⟩
    rw [share_flat hl hft] at this
    unfold numsR at this
    obtain ⟨q, hq, rfl⟩ := List.mem_map.1 this
    have := List.mem_range.1 hq
    exact ⟨f + q, rfl, by omega, by omega⟩
structure PkF (k : Pck) (Gs : List Grp) (n : Nat) (st : PkS) : Prop where
  tg : ∀ t ∈ st.tras, ∃ j, ∃ h : j < Gs.length, j < n ∧ t.lvl = Gs[j].lvl ∧ t.grp = Gs[j].name
  tf : ∀ a b, NextIn st.tras a b → a.lvl = b.lvl → a.grp = b.grp → (a.bs.length : Int) = k.bundles
  tl : ∀ t ∈ st.tras, 1 ≤ t.bs.length ∧ (t.bs.length : Int) ≤ k.bundles
  tb : ∀ t ∈ st.tras, ∀ i ∈ t.bs, 0 ≤ i ∧ ∃ b, st.buns[i.toNat]? = some b ∧ b.lvl = t.lvl ∧ b.grp = t.grp
  cg : ∀ c ∈ st.cons, ∃ j, ∃ h : j < Gs.length, j < n ∧ endsL Gs j ∧ c.lvl = Gs[j].lvl
  cf : ∀ a b, NextIn st.cons a b → a.lvl = b.lvl → (a.ts.length : Int) = k.trays
  cl : ∀ c ∈ st.cons, 1 ≤ c.ts.length ∧ (c.ts.length : Int) ≤ k.trays
  cb : ∀ c ∈ st.cons, ∀ i ∈ c.ts, 0 ≤ i ∧ ∃ t, st.tras[i.toNat]? = some t ∧ t.lvl = c.lvl
  bg : ∀ (q : Nat) t, st.beg ≤ q → st.tras[q]? = some t → ∀ h : n < Gs.length, t.lvl = Gs[n].lvl
theorem get_app {α : Type} {X Y : List α} {i : Nat} {b : α} (h : X[i]? = some b) : (X ++ Y)[i]? = some b := by
  rw [List.getElem?_append_left (List.getElem?_eq_some_iff.1 h).1]; exact h
theorem gs_lt {Gs : List Grp} (ho : Gs.Pairwise (fun g h => g.lvl < h.lvl ∨ g.lvl = h.lvl ∧ ltB g.name h.name = true)) {i j : Nat} (hij : i < j) (hj : j < Gs.length) : (Gs[i]'(by omega)).lvl < Gs[j].lvl ∨ (Gs[i]'(by omega)).lvl = Gs[j].lvl ∧ ltB (Gs[i]'(by omega)).name Gs[j].name = true :=
  List.pairwise_iff_getElem.1 ho i j (by omega) hj hij
theorem gs_le {Gs : List Grp} (ho : Gs.Pairwise (fun g h => g.lvl < h.lvl ∨ g.lvl = h.lvl ∧ ltB g.name h.name = true)) {i j : Nat} (hij : i ≤ j) (hj : j < Gs.length) : (Gs[i]'(by omega)).lvl ≤ Gs[j].lvl := by
  rcases Nat.lt_or_ge i j with h | h
  · rcases gs_lt ho h hj with h | h <;> omega
  · have : i = j := by omega
    subst this; omega
theorem pk_full {k : Pck} (hb : 1 ≤ k.bundles) (ht : 1 ≤ k.trays) {ps : List Pce} {zs : List Int} {Gs : List Grp} (ho : Gs.Pairwise (fun g h => g.lvl < h.lvl ∨ g.lvl = h.lvl ∧ ltB g.name h.name = true)) : ∀ n, n ≤ Gs.length → PkF k Gs n (pkTo k ps zs Gs n)
  | 0, _ => by
    have hn : ∀ {α : Type} {a b : α}, ¬ NextIn ([] : List α) a b := fun ⟨A, C, h⟩ => by simp at h
    unfold pkTo
    exact ⟨fun t h => (by cases h), fun a b h => absurd h hn, fun t h => (by cases h), fun t h => (by cases h), fun t h => (by cases h), fun a b h => absurd h hn, fun t h => (by cases h), fun t h => (by cases h), fun q t _ h => (by simp at h)⟩
  | n + 1, hn => by
    have ih := pk_full hb ht ho (ps := ps) (zs := zs) n (by omega)
    have hok := pk_ok hb ht ps zs Gs n (by omega)
    have hlt : n < Gs.length := by omega
    rw [pkTo_succ]
    unfold pkStep
    rw [dif_pos hlt]
    obtain ⟨st, hst⟩ : ∃ st, st = pkTo k ps zs Gs n := ⟨_, rfl⟩
    rw [← hst] at ih hok ⊢
    dsimp only
    obtain ⟨bs, hbs⟩ : ∃ bs, bs = st.buns ++ bunsOf k ps zs Gs[n] := ⟨_, rfl⟩
    obtain ⟨ts, hts⟩ : ∃ ts : List Tra, ts = st.tras ++ (shareR st.buns.length bs.length k.bundles.toNat).map (fun l => ⟨Gs[n].lvl, Gs[n].name, l⟩) := ⟨_, rfl⟩
    rw [← hbs, ← hts]
    have hkb : 1 ≤ k.bundles.toNat := by omega
    have hkt : 1 ≤ k.trays.toNat := by omega
    have hbl : st.buns.length ≤ bs.length := by rw [hbs, List.length_append]; omega
    have htl : st.tras.length ≤ ts.length := by rw [hts, List.length_append]; omega
    have hbeg := hok.beg
    have hnew : ∀ t ∈ (shareR st.buns.length bs.length k.bundles.toNat).map (fun l => (⟨Gs[n].lvl, Gs[n].name, l⟩ : Tra)), t.lvl = Gs[n].lvl ∧ t.grp = Gs[n].name ∧ t.bs ∈ shareR st.buns.length bs.length k.bundles.toNat := fun t h => by
      obtain ⟨l, hl, rfl⟩ := List.mem_map.1 h
      exact ⟨rfl, rfl, hl⟩
    have tg : ∀ t ∈ ts, ∃ j, ∃ h : j < Gs.length, j < n + 1 ∧ t.lvl = Gs[j].lvl ∧ t.grp = Gs[j].name := fun t h => by
      rw [hts] at h
      rcases List.mem_append.1 h with h | h
      · obtain ⟨j, hj, h1, h2⟩ := ih.tg t h
        exact ⟨j, hj, by omega, h2⟩
      · obtain ⟨h1, h2, _⟩ := hnew t h
        exact ⟨n, hlt, by omega, h1, h2⟩
    have tf : ∀ a b, NextIn ts a b → a.lvl = b.lvl → a.grp = b.grp → (a.bs.length : Int) = k.bundles := fun a b h e1 e2 => by
      rw [hts] at h
      rcases nextIn_append h with h | h | ⟨ha, hb'⟩
      · exact ih.tf a b h e1 e2
      · obtain ⟨q, hq, rfl, rfl⟩ := nextIn_share h
        have := shareAt_full hkb hq
        show ((shareAt _ _ _ q).length : Int) = _
        omega
      · obtain ⟨j, hj, h1, h2, h3⟩ := ih.tg a ha
        obtain ⟨h4, h5, _⟩ := hnew b hb'
        rcases gs_lt ho h1 hlt with h6 | ⟨_, h6⟩
        · omega
        · exact absurd (by rw [← h3, e2, h5]) (ltB_ne h6)
    have tl : ∀ t ∈ ts, 1 ≤ t.bs.length ∧ (t.bs.length : Int) ≤ k.bundles := fun t h => by
      rw [hts] at h
      rcases List.mem_append.1 h with h | h
      · exact ih.tl t h
      · obtain ⟨_, _, h3⟩ := hnew t h
        have := (mem_share hkb hbl h3).1
        omega
    have tb : ∀ t ∈ ts, ∀ i ∈ t.bs, 0 ≤ i ∧ ∃ b, bs[i.toNat]? = some b ∧ b.lvl = t.lvl ∧ b.grp = t.grp := fun t h i hi => by
      rw [hts] at h
      rcases List.mem_append.1 h with h | h
      · obtain ⟨h0, b, h1, h2⟩ := ih.tb t h i hi
        exact ⟨h0, b, by rw [hbs]; exact get_app h1, h2⟩
      · obtain ⟨h1, h2, h3⟩ := hnew t h
        obtain ⟨q, rfl, h4, h5⟩ := (mem_share hkb hbl h3).2 i hi
        refine ⟨by omega, bs[q], by rw [Int.toNat_natCast]; exact List.getElem?_eq_getElem h5, ?_⟩
        have : bs[q] ∈ bunsOf k ps zs Gs[n] := by
          simp only [hbs]
          rw [List.getElem_append_right h4]
          exact List.getElem_mem _
        unfold bunsOf at this
        obtain ⟨l, hl, he⟩ := List.mem_map.1 this
        rw [← he, h1, h2]
        exact ⟨rfl, rfl⟩
    have bg : ∀ (q : Nat) t, st.beg ≤ q → ts[q]? = some t → t.lvl = Gs[n].lvl := fun q t hq h => by
      by_cases hq2 : q < st.tras.length
      · refine ih.bg q t hq ?_ hlt
        rw [hts, List.getElem?_append_left hq2] at h
        exact h
      · rw [hts, List.getElem?_append_right (by omega)] at h
        exact (hnew t (List.mem_of_getElem? h)).1
    split
    · rename_i hends
      have hnewc : ∀ c ∈ (shareR st.beg ts.length k.trays.toNat).map (fun l => (⟨Gs[n].lvl, l⟩ : Con)), c.lvl = Gs[n].lvl ∧ c.ts ∈ shareR st.beg ts.length k.trays.toNat := fun c h => by
        obtain ⟨l, hl, rfl⟩ := List.mem_map.1 h
        exact ⟨rfl, hl⟩
      refine ⟨tg, tf, tl, tb, fun c h => ?_, fun a b h e => ?_, fun c h => ?_, fun c h i hi => ?_, fun q t hq h => ?_⟩
      · rcases List.mem_append.1 h with h | h
        · obtain ⟨j, hj, h1, h2⟩ := ih.cg c h
          exact ⟨j, hj, by omega, h2⟩
        · exact ⟨n, hlt, by omega, hends, (hnewc c h).1⟩
      · rcases nextIn_append h with h | h | ⟨ha, hb'⟩
        · exact ih.cf a b h e
        · obtain ⟨q, hq, rfl, rfl⟩ := nextIn_share h
          have := shareAt_full hkt hq
          show ((shareAt _ _ _ q).length : Int) = _
          omega
        · obtain ⟨j, hj, h1, h2, h3⟩ := ih.cg a ha
          have h4 := (hnewc b hb').1
          have h5 := h2 (by omega)
          have h6 := gs_le ho (show j ≤ j + 1 by omega) (by omega)
          have h7 := gs_le ho (show j + 1 ≤ n by omega) hlt
          omega
      · rcases List.mem_append.1 h with h | h
        · exact ih.cl c h
        · have := (mem_share hkt (by omega) (hnewc c h).2).1
          omega
      · rcases List.mem_append.1 h with h | h
        · obtain ⟨h0, t, h1, h2⟩ := ih.cb c h i hi
          exact ⟨h0, t, by show ts[i.toNat]? = _; rw [hts]; exact get_app h1, h2⟩
        · obtain ⟨h1, h2⟩ := hnewc c h
          obtain ⟨q, rfl, h4, h5⟩ := (mem_share hkt (by omega) h2).2 i hi
          refine ⟨by omega, ts[q], by rw [Int.toNat_natCast]; exact List.getElem?_eq_getElem h5, ?_⟩
          rw [h1]
          exact bg q _ h4 (List.getElem?_eq_getElem h5)
      · have := (List.getElem?_eq_some_iff.1 h).1
        exact absurd hq (Nat.not_le_of_lt this)
    · rename_i hne
      refine ⟨tg, tf, tl, tb, fun c h => ?_, ih.cf, ih.cl, fun c h i hi => ?_, fun q t hq h h' => ?_⟩
      · obtain ⟨j, hj, h1, h2⟩ := ih.cg c h
        exact ⟨j, hj, by omega, h2⟩
      · obtain ⟨h0, t, h1, h2⟩ := ih.cb c h i hi
        exact ⟨h0, t, by show ts[i.toNat]? = _; rw [hts]; exact get_app h1, h2⟩
      · have h1 := bg q t hq h
        unfold endsL at hne
        rw [h1]
        exact Classical.byContradiction (fun hc => hne (fun hh e => hc e.symm))
end Go.Proofs.YtelklmdlodgdpaaGreat
