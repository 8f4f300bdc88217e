/-
  Plain laws of SchemeParts.
-/
import Derived.Test.YtdahgfopighhlaaV4
namespace Go.Proofs.Ytdahgfopighhlaa
open Go.RowKit
set_option linter.unusedVariables false
set_option maxRecDepth 100000
/-- What the statement asks of a group. -/
structure PartAt (ls : List Lev) (cs : List ByteArray) (gs : List Grp) (g : Grp) (m : Nat) : Prop where
  hm : m < ls.length
  lvl : g.lvl = m
  some_ : 0 < g.items.length
  few : g.items.length ≤ cs.length
  item : ∀ p (hp : p < g.items.length), ∃ q : Nat, ∃ hq : q < cs.length, g.items[p] = q ∧ grpOf (lv ls m) cs[q] = g.name
  order : g.items.Pairwise (· < ·)
  up : (g.up = -1 ∧ m + 1 = ls.length) ∨ (m + 1 < ls.length ∧ ∃ u : Nat, ∃ hu : u < gs.length, g.up = u ∧ gs[u].lvl = m + 1 ∧ ∀ p (hp : p < g.items.length) (q : Nat) (hq : q < cs.length), g.items[p] = q → grpOf (lv ls (m + 1)) cs[q] = gs[u].name)
theorem itm_len (ls : List Lev) (cs : List ByteArray) (m : Nat) (n : ByteArray) : (itm ls cs m n).length ≤ cs.length := itemsTo_len _ _ _ _
theorem part_at {ls : List Lev} {cs : List ByteArray} (h : rightB ls = true) (hc : ∀ c ∈ cs, codeB c = true) (hp : ∀ l ∈ ls, ∀ c ∈ cs, l.pre ≤ c.size) {g : Grp} (hg : g ∈ gAll ls cs ls.length) : ∃ m, PartAt ls cs (gAll ls cs ls.length) g m := by
  obtain ⟨m, n, hm, hn, rfl⟩ := mem_gAll.1 hg
  have hit : ∀ p (hp : p < (itm ls cs m n).length), ∃ q : Nat, ∃ hq : q < cs.length, (itm ls cs m n)[p] = q ∧ grpOf (lv ls m) cs[q] = n := fun p hp => by
    obtain ⟨q, hq, h1, h2⟩ := mem_itm.1 (List.getElem_mem hp)
    exact ⟨q, hq, h2, h1⟩
  refine ⟨m, ⟨hm, rfl, List.length_pos_iff.2 (itm_some hn), itm_len ls cs m n, hit, itm_order ls cs m n, ?_⟩⟩
  by_cases hk : m + 1 < ls.length
  · right
    refine ⟨hk, ?_⟩
    obtain ⟨i, hi, hh, hgr⟩ := headC_mem hn
    have hmem : grpOf (lv ls (m + 1)) (headC ls cs m n) ∈ nm ls cs (m + 1) := by rw [hh]; exact nm_of hi
    have hlt := idx_lt hmem
    have hget := gAll_get ls cs ls.length (m + 1) _ hk hlt
    obtain ⟨hu, hge⟩ := List.getElem?_eq_some_iff.1 hget
    have hnm : (nm ls cs (m + 1))[idx (grpOf (lv ls (m + 1)) (headC ls cs m n)) (nm ls cs (m + 1))] = grpOf (lv ls (m + 1)) (headC ls cs m n) := by
      have := idx_get hmem
      rw [List.getElem?_eq_getElem hlt] at this
      exact Option.some.inj this
    refine ⟨upOf ls cs m n, hu, ?_, ?_, ?_⟩
    · unfold gAt
      dsimp only
      rw [if_pos hk]
    · have : (gAll ls cs ls.length)[upOf ls cs m n] = gAt ls cs ls.length (m + 1) (nm ls cs (m + 1))[idx (grpOf (lv ls (m + 1)) (headC ls cs m n)) (nm ls cs (m + 1))] := hge
      rw [this]
      rfl
    · intro p hp' q hq he
      have : (gAll ls cs ls.length)[upOf ls cs m n] = gAt ls cs ls.length (m + 1) (nm ls cs (m + 1))[idx (grpOf (lv ls (m + 1)) (headC ls cs m n)) (nm ls cs (m + 1))] := hge
      rw [this, hnm]
      show grpOf (lv ls (m + 1)) cs[q] = grpOf (lv ls (m + 1)) (headC ls cs m n)
      rw [hh]
      obtain ⟨q', hq', h1, h2⟩ := hit p hp'
      have e : q = q' := by
        have : ((q : Nat) : Int) = q' := he.symm.trans h1
        omega
      subst e
      rw [lv_get hk]
      rw [lv_get hm] at h2 hgr
      exact path_nests h (hc _ (List.getElem_mem hq)) (hc _ (List.getElem_mem hi)) (fun l hl => hp l hl _ (List.getElem_mem hq)) (fun l hl => hp l hl _ (List.getElem_mem hi)) m hk (h2.trans hgr.symm)
  · left
    unfold gAt
    dsimp only
    rw [if_neg hk]
    exact ⟨rfl, by omega⟩
theorem order_at {ls : List Lev} {cs : List ByteArray} {k i : Nat} (hi : i + 1 < (gAll ls cs k).length) : (gAll ls cs k)[i].lvl < (gAll ls cs k)[i + 1].lvl ∨ (gAll ls cs k)[i].lvl = (gAll ls cs k)[i + 1].lvl ∧ ltB (gAll ls cs k)[i].name (gAll ls cs k)[i + 1].name = true :=
  List.pairwise_iff_getElem.1 (gAll_order ls cs k) i (i + 1) (by omega) hi (by omega)
/-- Does a group hold a place (a code at a level)? -/
def hitB (L : Nat) (q : Nat) (g : Grp) : Bool := decide (g.lvl = ((q % L : Nat) : Int)) && decide (((q / L : Nat) : Int) ∈ g.items)
def metTo (L : Nat) (gs : List Grp) (j q : Nat) : Nat := ((gs.take j).filter (hitB L q)).length
/-- ..and p items of the next one. -/
def metAt (L : Nat) (gs : List Grp) (j : Nat) (g : Grp) (p q : Nat) : Nat := metTo L gs j q + if hitB L q { g with items := g.items.take p } = true then 1 else 0
theorem one_of {α : Type} {p : α → Bool} {a : α} : ∀ {l : List α}, l.Nodup → a ∈ l → p a = true → (∀ b ∈ l, p b = true → b = a) → (l.filter p).length = 1
  | [], _, h, _, _ => absurd h (by simp)
  | x :: r, hn, h, ha, hu => by
    rw [List.nodup_cons] at hn
    by_cases e : x = a
    · subst e
      rw [List.filter_cons_of_pos ha]
      have : r.filter p = [] := by
        rw [List.filter_eq_nil_iff]
        intro b hb hpb
        exact hn.1 ((hu b (List.mem_cons_of_mem _ hb) hpb) ▸ hb)
      rw [this]
      rfl
    · have hx : ¬ p x = true := fun hx => e (hu x List.mem_cons_self hx)
      rw [List.filter_cons_of_neg hx]
      refine one_of hn.2 ?_ ha (fun b hb => hu b (List.mem_cons_of_mem _ hb))
      rcases List.mem_cons.1 h with h | h
      · exact absurd h.symm e
      · exact h
theorem ltB_irr {a : ByteArray} (h : ltB a a = true) : False := ltB_ne h rfl
theorem gAll_nodup (ls : List Lev) (cs : List ByteArray) (k : Nat) : (gAll ls cs k).Nodup := by
  refine List.Pairwise.imp ?_ (gAll_order ls cs k)
  intro a b h e
  subst e
  rcases h with h | ⟨_, h⟩
  · omega
  · exact ltB_irr h
/-- Each code is in one group at each level. -/
theorem met_end (ls : List Lev) (cs : List ByteArray) (q : Nat) (hq : q < cs.length * ls.length) : metTo ls.length (gAll ls cs ls.length) (gAll ls cs ls.length).length q = 1 := by
  unfold metTo
  rw [List.take_of_length_le (Nat.le_refl _)]
  have hL : 0 < ls.length := by
    rcases Nat.eq_zero_or_pos ls.length with h | h
    · rw [h] at hq; omega
    · exact h
  have h1 : q / ls.length < cs.length := (Nat.div_lt_iff_lt_mul hL).2 hq
  have h2 : q % ls.length < ls.length := Nat.mod_lt _ hL
  refine one_of (a := gAt ls cs ls.length (q % ls.length) (grpOf (lv ls (q % ls.length)) cs[q / ls.length])) (gAll_nodup ls cs _) (mem_gAll.2 ⟨_, _, h2, nm_of h1, rfl⟩) ?_ ?_
  · unfold hitB
    rw [Bool.and_eq_true, decide_eq_true_eq, decide_eq_true_eq]
    exact ⟨rfl, mem_itm.2 ⟨_, h1, rfl, rfl⟩⟩
  · intro b hb hp
    obtain ⟨m, n, hm, hn, rfl⟩ := mem_gAll.1 hb
    unfold hitB at hp
    rw [Bool.and_eq_true, decide_eq_true_eq, decide_eq_true_eq] at hp
    have e1 : m = q % ls.length := by
      have : (m : Int) = ((q % ls.length : Nat) : Int) := hp.1
      omega
    obtain ⟨i, hi, h3, h4⟩ := mem_itm.1 hp.2
    have e2 : i = q / ls.length := by
      have := h4
      omega
    subst e1
    subst e2
    rw [h3]
theorem metAt_zero (L : Nat) (gs : List Grp) (j : Nat) (g : Grp) (q : Nat) : metAt L gs j g 0 q = metTo L gs j q := by
  unfold metAt hitB
  simp
theorem metAt_end (L : Nat) (gs : List Grp) (j : Nat) (hj : j < gs.length) (q : Nat) : metAt L gs j gs[j] gs[j].items.length q = metTo L gs (j + 1) q := by
  unfold metAt metTo
  rw [List.take_succ_eq_append_getElem hj, List.filter_append, List.length_append, List.take_of_length_le (Nat.le_refl _)]
  congr 1
  by_cases e : hitB L q gs[j] = true
  · rw [if_pos e, List.filter_cons_of_pos e]; rfl
  · rw [if_neg e, List.filter_cons_of_neg e]; rfl
/-- One item more. -/
theorem metAt_succ (L : Nat) (gs : List Grp) (j : Nat) (g : Grp) (m c p : Nat) (hm : m < L) (hl : g.lvl = m) (ho : g.items.Pairwise (· < ·)) (hp : p < g.items.length) (hc : g.items[p] = c) (q : Nat) :
    metAt L gs j g (p + 1) q = if q = c * L + m then metAt L gs j g p q + 1 else metAt L gs j g p q := by
  have hdm := Nat.div_add_mod q L
  have hiff : (q % L = m ∧ q / L = c) ↔ q = c * L + m := by
    constructor
    · rintro ⟨rfl, rfl⟩
      rw [Nat.mul_comm]
      exact hdm.symm
    · rintro rfl
      have hL : 0 < L := by omega
      refine ⟨by rw [Nat.mul_comm, Nat.mul_add_mod]; exact Nat.mod_eq_of_lt hm, by rw [Nat.mul_comm, Nat.mul_add_div hL, Nat.div_eq_of_lt hm]; rfl⟩
  have hno : ((c : Nat) : Int) ∉ g.items.take p := by
    intro h
    obtain ⟨i, hi, he⟩ := List.mem_iff_getElem.1 h
    rw [List.length_take] at hi
    rw [List.getElem_take] at he
    have := List.pairwise_iff_getElem.1 ho i p (by omega) hp (by omega)
    omega
  have hb1 : ∀ k, hitB L q { g with items := g.items.take k } = true ↔ (q % L = m ∧ ((q / L : Nat) : Int) ∈ g.items.take k) := fun k => by
    unfold hitB
    rw [Bool.and_eq_true, decide_eq_true_eq, decide_eq_true_eq, hl]
    constructor
    · rintro ⟨h1, h2⟩; exact ⟨by omega, h2⟩
    · rintro ⟨h1, h2⟩; exact ⟨by omega, h2⟩
  have hmem : ((q / L : Nat) : Int) ∈ g.items.take (p + 1) ↔ ((q / L : Nat) : Int) ∈ g.items.take p ∨ q / L = c := by
    rw [List.take_succ_eq_append_getElem hp, List.mem_append, List.mem_singleton, hc]
    constructor
    · rintro (h | h)
      · exact Or.inl h
      · exact Or.inr (by omega)
    · rintro (h | h)
      · exact Or.inl h
      · exact Or.inr (by omega)
  unfold metAt
  by_cases e : q = c * L + m
  · rw [if_pos e]
    obtain ⟨e1, e2⟩ := hiff.2 e
    rw [if_pos ((hb1 (p + 1)).2 ⟨e1, hmem.2 (Or.inr e2)⟩), if_neg (fun h => hno (by have := ((hb1 p).1 h).2; rw [e2] at this; exact this))]
  · rw [if_neg e]
    congr 1
    by_cases h1 : hitB L q { g with items := g.items.take p } = true
    · have h2 := (hb1 p).1 h1
      rw [if_pos h1, if_pos ((hb1 (p + 1)).2 ⟨h2.1, hmem.2 (Or.inl h2.2)⟩)]
    · rw [if_neg h1, if_neg]
      intro h3
      have h4 := (hb1 (p + 1)).1 h3
      rcases hmem.1 h4.2 with h5 | h5
      · exact h1 ((hb1 p).2 ⟨h4.1, h5⟩)
      · exact e (hiff.1 ⟨h4.1, h5⟩)
theorem metTo_le (L : Nat) (gs : List Grp) (j q : Nat) : metTo L gs j q ≤ gs.length := by
  unfold metTo
  refine Nat.le_trans (List.length_filter_le _ _) ?_
  rw [List.length_take]
  omega
theorem metAt_le (L : Nat) (gs : List Grp) (j : Nat) (g : Grp) (p q : Nat) : metAt L gs j g p q ≤ gs.length + 1 := by
  have := metTo_le L gs j q
  unfold metAt
  split <;> omega
/-- The row of counts. -/
def metV (N : Nat) (f : Nat → Nat) : List Value := (List.range N).map (fun q => .int .i64 (f q : Nat))
theorem metV_set (N : Nat) (f h : Nat → Nat) (i : Nat) (e : ∀ q, h q = if q = i then f q + 1 else f q) : (metV N f).set i (.int .i64 ((f i + 1 : Nat) : Int)) = metV N h := by
  unfold metV
  refine List.ext_getElem? (fun q => ?_)
  rw [List.getElem?_set, List.getElem?_map, List.getElem?_map, List.length_map, List.length_range]
  by_cases hq : q < N
  · rw [List.getElem?_range hq]
    by_cases hi : i = q
    · subst hi
      rw [if_pos rfl, if_pos hq]
      simp only [Option.map_some]
      rw [e, if_pos rfl]
    · rw [if_neg hi]
      simp only [Option.map_some]
      rw [e, if_neg (fun h => hi h.symm)]
  · have hn : (List.range N)[q]? = none := List.getElem?_eq_none (by rw [List.length_range]; omega)
    rw [hn]
    by_cases hi : i = q
    · rw [if_pos hi, if_neg (by omega)]; rfl
    · rw [if_neg hi]; rfl
theorem metV_zero (N : Nat) (f : Nat → Nat) (h : ∀ q, f q = 0) : metV N f = List.replicate N (.int .i64 0) := by
  unfold metV
  refine List.eq_replicate_iff.2 ⟨by simp, fun v hv => ?_⟩
  obtain ⟨q, _, rfl⟩ := List.mem_map.1 hv
  rw [h]
  rfl
theorem metV_get {N : Nat} {f : Nat → Nat} {q : Nat} (h : q < N) : (metV N f)[q]? = some (.int .i64 (f q : Nat)) := by
  unfold metV
  rw [List.getElem?_map, List.getElem?_range h]
  rfl
theorem metV_congr {N : Nat} {f h : Nat → Nat} (e : ∀ q, f q = h q) : metV N f = metV N h := by
  have : f = h := funext e
  rw [this]
theorem place_lt {c n m L : Nat} (hc : c < n) (hm : m < L) : c * L + m < n * L := by
  have : (c + 1) * L ≤ n * L := Nat.mul_le_mul_right _ hc
  rw [Nat.add_mul] at this
  omega
end Go.Proofs.Ytdahgfopighhlaa
