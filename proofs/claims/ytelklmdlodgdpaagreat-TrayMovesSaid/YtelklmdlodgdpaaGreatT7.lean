/-
  tray.Check in plain words; a packed load is right.
-/
import Derived.Test.YtelklmdlodgdpaaGreatT6
namespace Go.Proofs.YtelklmdlodgdpaaGreat
open Go.RowKit
set_option linter.unusedVariables false
set_option maxRecDepth 100000
def noB : ByteArray := ⟨#[]⟩
/-- The names of the pieces' groups. -/
def nmStep (zs : List Int) (x : Grp) (ns : List ByteArray) (i : Int) : List ByteArray := if zs.getD i.toNat (-1) = x.lvl then ns.set i.toNat x.name else ns
def nmI (zs : List Int) (x : Grp) (ns : List ByteArray) (I : List Int) : List ByteArray := I.foldl (nmStep zs x) ns
def nmG (zs : List Int) (ns : List ByteArray) (x : Grp) : List ByteArray := nmI zs x ns x.items
def nmTo (zs : List Int) (Gs : List Grp) (n q : Nat) : List ByteArray := (Gs.take q).foldl (nmG zs) (List.replicate n noB)
theorem nmI_snoc (zs : List Int) (x : Grp) (ns : List ByteArray) (I : List Int) (i : Int) : nmI zs x ns (I ++ [i]) = nmStep zs x (nmI zs x ns I) i := by unfold nmI; rw [List.foldl_append]; rfl
theorem nmStep_len (zs : List Int) (x : Grp) (ns : List ByteArray) (i : Int) : (nmStep zs x ns i).length = ns.length := by unfold nmStep; split <;> simp
theorem nmI_len (zs : List Int) (x : Grp) (I : List Int) : ∀ ns : List ByteArray, (nmI zs x ns I).length = ns.length := by
  induction I with
  | nil => intro ns; rfl
  | cons i r ih =>
    intro ns
    show (nmI zs x (nmStep zs x ns i) r).length = _
    rw [ih, nmStep_len]
theorem nmTo_succ (zs : List Int) (Gs : List Grp) (n : Nat) {q : Nat} (h : q < Gs.length) : nmTo zs Gs n (q + 1) = nmG zs (nmTo zs Gs n q) Gs[q] := by
  unfold nmTo
  rw [List.take_succ_eq_append_getElem h, List.foldl_append]; rfl
theorem nmTo_len (zs : List Int) (Gs : List Grp) (n : Nat) : ∀ q, q ≤ Gs.length → (nmTo zs Gs n q).length = n
  | 0, _ => by unfold nmTo; simp
  | q + 1, h => by rw [nmTo_succ _ _ _ (by omega)]; unfold nmG; rw [nmI_len, nmTo_len zs Gs n q (by omega)]
theorem nmI_get {zs : List Int} {x : Grp} {j : Nat} (I : List Int) (hI : ∀ i ∈ I, 0 ≤ i) : ∀ ns : List ByteArray, j < ns.length → (nmI zs x ns I).getD j noB = if (j : Int) ∈ I ∧ zs.getD j (-1) = x.lvl then x.name else ns.getD j noB := by
  induction I with
  | nil => intro ns _; rw [if_neg (by simp)]; rfl
  | cons i r ih =>
    intro ns hj
    show (nmI zs x (nmStep zs x ns i) r).getD j noB = _
    rw [ih (fun a ha => hI a (List.mem_cons_of_mem _ ha)) _ (by rw [nmStep_len]; exact hj)]
    have hi := hI i List.mem_cons_self
    by_cases h1 : (j : Int) ∈ r ∧ zs.getD j (-1) = x.lvl
    · rw [if_pos h1, if_pos ⟨List.mem_cons_of_mem _ h1.1, h1.2⟩]
    · rw [if_neg h1]
      unfold nmStep
      by_cases h2 : (j : Int) = i
      · have h3 : i.toNat = j := by omega
        rw [h3]
        by_cases h4 : zs.getD j (-1) = x.lvl
        · rw [if_pos h4, if_pos ⟨by rw [h2]; exact List.mem_cons_self, h4⟩, List.getD_eq_getElem?_getD, List.getElem?_set_self hj]; rfl
        · rw [if_neg h4, if_neg (fun h => h4 h.2)]
      · have h3 : i.toNat ≠ j := by omega
        have h4 : ¬ ((j : Int) ∈ i :: r ∧ zs.getD j (-1) = x.lvl) := fun h => by
          rcases List.mem_cons.1 h.1 with h5 | h5
          · exact h2 h5
          · exact h1 ⟨h5, h.2⟩
        rw [if_neg h4]
        split
        · rw [List.getD_eq_getElem?_getD, List.getElem?_set_ne h3, ← List.getD_eq_getElem?_getD]
        · rfl
/-- Each piece is in one group of the level that it takes. -/
structure OwnIn (ps : List Pce) (zs : List Int) (Gs : List Grp) : Prop where
  some : ∀ i : Nat, i < ps.length → ∃ x ∈ Gs, x.lvl = zs.getD i (-1) ∧ (i : Int) ∈ x.items
  one : ∀ x ∈ Gs, ∀ y ∈ Gs, x.lvl = y.lvl → ∀ i ∈ x.items, i ∈ y.items → x = y
theorem nm_fold {zs : List Int} {nm : ByteArray} {j : Nat} : ∀ (Gs : List Grp) (ns : List ByteArray), j < ns.length → (∀ y ∈ Gs, ∀ i ∈ y.items, 0 ≤ i) → (∀ y ∈ Gs, (j : Int) ∈ y.items → zs.getD j (-1) = y.lvl → y.name = nm) →
    (ns.getD j noB = nm ∨ ∃ y ∈ Gs, (j : Int) ∈ y.items ∧ zs.getD j (-1) = y.lvl) → (Gs.foldl (nmG zs) ns).getD j noB = nm
  | [], ns, _, _, _, h => by
    rcases h with h | ⟨y, hy, _⟩
    · exact h
    · cases hy
  | x :: r, ns, hj, h0, hn, h => by
    show (r.foldl (nmG zs) (nmG zs ns x)).getD j noB = nm
    have hl : (nmG zs ns x).length = ns.length := by unfold nmG; exact nmI_len _ _ _ _
    refine nm_fold r _ (by rw [hl]; exact hj) (fun y hy => h0 y (List.mem_cons_of_mem _ hy)) (fun y hy => hn y (List.mem_cons_of_mem _ hy)) ?_
    unfold nmG
    rw [nmI_get x.items (h0 x List.mem_cons_self) ns hj]
    by_cases h1 : (j : Int) ∈ x.items ∧ zs.getD j (-1) = x.lvl
    · rw [if_pos h1]
      exact .inl (hn x List.mem_cons_self h1.1 h1.2)
    · rw [if_neg h1]
      rcases h with h | ⟨y, hy, h2, h3⟩
      · exact .inl h
      · rcases List.mem_cons.1 hy with rfl | hy
        · exact absurd ⟨h2, h3⟩ h1
        · exact .inr ⟨y, hy, h2, h3⟩
theorem nmT_at {ps : List Pce} {zs : List Int} {Gs : List Grp} (hG : GrpsIn ps Gs) (ho : OwnIn ps zs Gs) {x : Grp} (hx : x ∈ Gs) {j : Nat} (hj : (j : Int) ∈ x.items) (hz : zs.getD j (-1) = x.lvl) : (nmTo zs Gs ps.length Gs.length).getD j noB = x.name := by
  have hjl := ((hG.items x hx).2 _ hj).2
  unfold nmTo
  rw [List.take_length]
  refine nm_fold Gs _ (by rw [List.length_replicate]; omega) (fun y hy i hi => ((hG.items y hy).2 i hi).1) (fun y hy h1 h2 => ?_) (.inr ⟨x, hx, hj, hz⟩)
  rw [ho.one y hy x hx (by rw [← h2, hz]) _ h1 hj]
/-- A right bundle. -/
def BunGood (k : Pck) (ps : List Pce) (zs : List Int) (ns : List ByteArray) (b : Bun) : Prop :=
  ∃ I : List Int, (∀ i ∈ I, 0 ≤ i ∧ i.toNat < ps.length ∧ zs.getD i.toNat (-1) = b.lvl ∧ ns.getD i.toNat noB = b.grp) ∧ b.ids = I.map (fun i => (pcAt ps i).id) ∧ gramsOf ps I = b.grams ∧ 1 ≤ I.length ∧ (I.length : Int) ≤ k.pieces ∧ b.grams ≤ k.grams
structure BunsOk (k : Pck) (ps : List Pce) (zs : List Int) (ns : List ByteArray) (bs : List Bun) : Prop where
  good : ∀ b ∈ bs, BunGood k ps zs ns b
  once : (bs.flatMap (fun b => b.ids)).Nodup
  all : (bs.flatMap (fun b => b.ids)).length = ps.length
structure OnceOk (ls : List (List Int)) (n : Nat) (len : Int) : Prop where
  lens : ∀ l ∈ ls, 1 ≤ l.length ∧ (l.length : Int) ≤ len
  ins : ∀ i ∈ ls.flatten, 0 ≤ i ∧ i < n
  once : ls.flatten.Nodup
  all : ls.flatten.length = n
structure TrasOk (k : Pck) (l : Lod) : Prop where
  once : OnceOk (l.tras.map (fun t => t.bs)) l.buns.length k.bundles
  grp : ∀ t ∈ l.tras, ∀ i ∈ t.bs, ∃ b, l.buns[i.toNat]? = some b ∧ b.lvl = t.lvl ∧ b.grp = t.grp
structure ConsOk (k : Pck) (l : Lod) : Prop where
  once : OnceOk (l.cons.map (fun c => c.ts)) l.tras.length k.trays
  grp : ∀ c ∈ l.cons, ∀ i ∈ c.ts, ∃ t, l.tras[i.toNat]? = some t ∧ t.lvl = c.lvl
/-- A right load. -/
structure LodOk (k : Pck) (ps : List Pce) (zs : List Int) (ns : List ByteArray) (l : Lod) : Prop where
  buns : BunsOk k ps zs ns l.buns
  tras : TrasOk k l
  cons : ConsOk k l
theorem nums_once (n : Nat) : (numsR 0 n).Nodup ∧ (numsR 0 n).length = n ∧ ∀ i ∈ numsR 0 n, 0 ≤ i ∧ i < (n : Int) := by
  refine ⟨?_, by rw [numsR_len]; omega, fun i hi => ?_⟩
  · unfold numsR
    rw [List.Nodup, List.pairwise_map]
    refine List.Pairwise.imp ?_ (List.nodup_range)
    intro a b hab h
    omega
  · unfold numsR at hi
    obtain ⟨q, hq, rfl⟩ := List.mem_map.1 hi
    have := List.mem_range.1 hq
    omega
theorem flat_bs {α : Type} (l : List α) (f : α → List Int) : (l.map f).flatten = l.flatMap f := by rw [List.flatMap_def]
theorem takes_perm {ps : List Pce} {zs : List Int} {Gs : List Grp} (hG : GrpsIn ps Gs) (ho : OwnIn ps zs Gs) : (Gs.flatMap (takesOf zs)).Perm (numsR 0 ps.length) := by
  have hN : (Gs.flatMap (takesOf zs)).Nodup := by
    unfold List.Nodup
    rw [List.pairwise_flatMap]
    refine ⟨fun x hx => ?_, ?_⟩
    · unfold takesOf
      refine List.Pairwise.filter _ ?_
      exact List.Pairwise.imp (fun h => by omega) (hG.items x hx).1
    · refine List.Pairwise.imp_of_mem ?_ hG.order
      intro x y hx hy hxy a ha b hb e
      subst e
      unfold takesOf at ha hb
      obtain ⟨a1, a2⟩ := List.mem_filter.1 ha
      obtain ⟨b1, b2⟩ := List.mem_filter.1 hb
      have e1 : x.lvl = y.lvl := by
        have h1 := of_decide_eq_true a2
        have h2 := of_decide_eq_true b2
        omega
      have := ho.one x hx y hy e1 a a1 b1
      subst this
      rcases hxy with h | ⟨_, h⟩
      · omega
      · rw [ltB_irrefl] at h; cases h
  have hM : (numsR 0 ps.length).Nodup := (nums_once _).1
  refine (List.perm_ext_iff_of_nodup hN hM).2 (fun i => ⟨fun h => ?_, fun h => ?_⟩)
  · obtain ⟨x, hx, hi⟩ := List.mem_flatMap.1 h
    unfold takesOf at hi
    obtain ⟨h0, h1⟩ := (hG.items x hx).2 i (List.mem_filter.1 hi).1
    unfold numsR
    exact List.mem_map.2 ⟨i.toNat, List.mem_range.2 (by omega), by omega⟩
  · obtain ⟨h0, h1⟩ := (nums_once _).2.2 i h
    obtain ⟨x, hx, h2, h3⟩ := ho.some i.toNat (by omega)
    rw [Int.toNat_of_nonneg h0] at h3
    refine List.mem_flatMap.2 ⟨x, hx, ?_⟩
    unfold takesOf
    exact List.mem_filter.2 ⟨h3, decide_eq_true h2.symm⟩
theorem buns_ids {k : Pck} {ps : List Pce} {zs : List Int} {Gs : List Grp} (hk : 1 ≤ k.pieces) (hg0 : 0 ≤ k.grams) (hg : ∀ p ∈ ps, p.grams ≤ k.grams) (hG : GrpsIn ps Gs) : (Gs.flatMap (bunsOf k ps zs)).flatMap (fun b => b.ids) = (Gs.flatMap (takesOf zs)).map (fun i => (pcAt ps i).id) := by
  rw [List.flatMap_assoc, List.map_flatMap]
  have h : ∀ L : List Grp, (∀ x ∈ L, x ∈ Gs) → L.flatMap (fun x => (bunsOf k ps zs x).flatMap (fun b => b.ids)) = L.flatMap (fun x => (takesOf zs x).map (fun i => (pcAt ps i).id)) := fun L => by
    induction L with
    | nil => intro _; rfl
    | cons x r ih =>
      intro hL
      rw [List.flatMap_cons, List.flatMap_cons, ih (fun y hy => hL y (List.mem_cons_of_mem _ hy))]
      congr 1
      have hx := hL x List.mem_cons_self
      have hgi : ∀ i ∈ takesOf zs x, (pcAt ps i).grams ≤ k.grams := fun i hi => by
        obtain ⟨h0, h1⟩ := (hG.items x hx).2 i (List.mem_filter.1 hi).1
        unfold pcAt
        rw [List.getD_eq_getElem?_getD, List.getElem?_eq_getElem h1]
        exact hg _ (List.getElem_mem h1)
      have hc := (cuts_ok hk hg0 (takesOf zs x) hgi).1
      unfold bunsOf
      rw [List.flatMap_map]
      show (cuts k ps (takesOf zs x)).flatMap (fun l => l.map (fun i => (pcAt ps i).id)) = _
      rw [List.flatMap_def, ← List.map_flatten, hc]
  exact h Gs (fun x hx => hx)
theorem ids_inj {ps : List Pce} (hu : IdsUp ps) {i j : Int} (hi : 0 ≤ i ∧ i.toNat < ps.length) (hj : 0 ≤ j ∧ j.toNat < ps.length) (h : (pcAt ps i).id = (pcAt ps j).id) : i = j := by
  rcases Nat.lt_trichotomy i.toNat j.toNat with h1 | h1 | h1
  · have := hu _ _ h1 hj.2
    rw [Int.toNat_of_nonneg hi.1, Int.toNat_of_nonneg hj.1] at this
    omega
  · omega
  · have := hu _ _ h1 hi.2
    rw [Int.toNat_of_nonneg hi.1, Int.toNat_of_nonneg hj.1] at this
    omega
/-- A packed load is right. -/
theorem pk_lodOk {k : Pck} {ps : List Pce} {zs : List Int} {Gs : List Grp} (hk : 1 ≤ k.pieces) (hg0 : 0 ≤ k.grams) (hb : 1 ≤ k.bundles) (ht : 1 ≤ k.trays) (hg : ∀ p ∈ ps, p.grams ≤ k.grams) (hu : IdsUp ps) (hG : GrpsIn ps Gs) (ho : OwnIn ps zs Gs) :
    LodOk k ps zs (nmTo zs Gs ps.length Gs.length) ⟨(pkTo k ps zs Gs Gs.length).buns, (pkTo k ps zs Gs Gs.length).tras, (pkTo k ps zs Gs Gs.length).cons⟩ := by
  have hok := pk_ok hb ht ps zs Gs Gs.length (Nat.le_refl _)
  have hF := pk_full hb ht hG.order (ps := ps) (zs := zs) Gs.length (Nat.le_refl _)
  have hbn := hok.buns
  rw [List.take_length] at hbn
  have hbeg := hok.fin (.inr (fun h => absurd h (Nat.lt_irrefl _)))
  have hperm := takes_perm hG ho
  have hids := buns_ids (zs := zs) hk hg0 hg hG
  have hTin : ∀ i ∈ Gs.flatMap (takesOf zs), 0 ≤ i ∧ i.toNat < ps.length := fun i hi => by
    have := (nums_once _).2.2 i (hperm.mem_iff.1 hi)
    omega
  refine ⟨⟨?_, ?_, ?_⟩, ⟨⟨?_, ?_, ?_, ?_⟩, ?_⟩, ⟨⟨?_, ?_, ?_, ?_⟩, ?_⟩⟩
  · intro b hb
    rw [hbn] at hb
    obtain ⟨x, hx, hb⟩ := List.mem_flatMap.1 hb
    unfold bunsOf at hb
    obtain ⟨l, hl, rfl⟩ := List.mem_map.1 hb
    have hgi : ∀ i ∈ takesOf zs x, (pcAt ps i).grams ≤ k.grams := fun i hi => by
      obtain ⟨h0, h1⟩ := (hG.items x hx).2 i (List.mem_filter.1 hi).1
      unfold pcAt
      rw [List.getD_eq_getElem?_getD, List.getElem?_eq_getElem h1]
      exact hg _ (List.getElem_mem h1)
    obtain ⟨c1, c2, _⟩ := cuts_ok hk hg0 (takesOf zs x) hgi
    obtain ⟨d1, d2, d3⟩ := c2 l hl
    refine ⟨l, fun i hi => ?_, rfl, rfl, List.length_pos_iff.2 d1, d2, d3⟩
    have hit : i ∈ takesOf zs x := by rw [← c1]; exact List.mem_flatten.2 ⟨l, hl, hi⟩
    unfold takesOf at hit
    obtain ⟨i1, i2⟩ := List.mem_filter.1 hit
    obtain ⟨h0, h1⟩ := (hG.items x hx).2 i i1
    have h2 : zs.getD i.toNat (-1) = x.lvl := of_decide_eq_true i2
    exact ⟨h0, h1, h2, nmT_at hG ho hx (by rw [Int.toNat_of_nonneg h0]; exact i1) h2⟩
  · show ((pkTo k ps zs Gs Gs.length).buns.flatMap _).Nodup
    rw [hbn, hids, List.Nodup, List.pairwise_map]
    refine List.Pairwise.imp_of_mem ?_ (hperm.nodup_iff.2 (nums_once _).1)
    intro a b ha hb hab h
    exact hab (ids_inj hu (hTin a ha) (hTin b hb) h)
  · show ((pkTo k ps zs Gs Gs.length).buns.flatMap _).length = _
    rw [hbn, hids, List.length_map, hperm.length_eq, (nums_once _).2.1]
  · intro l hl
    obtain ⟨t, ht, rfl⟩ := List.mem_map.1 hl
    exact hF.tl t ht
  · show ∀ i ∈ ((pkTo k ps zs Gs Gs.length).tras.map (fun t => t.bs)).flatten, _
    rw [flat_bs, hok.nb]
    exact (nums_once _).2.2
  · show (((pkTo k ps zs Gs Gs.length).tras.map (fun t => t.bs)).flatten).Nodup
    rw [flat_bs, hok.nb]
    exact (nums_once _).1
  · show (((pkTo k ps zs Gs Gs.length).tras.map (fun t => t.bs)).flatten).length = _
    rw [flat_bs, hok.nb]
    exact (nums_once _).2.1
  · intro t ht i hi
    exact (hF.tb t ht i hi).2
  · intro l hl
    obtain ⟨t, ht, rfl⟩ := List.mem_map.1 hl
    exact hF.cl t ht
  · show ∀ i ∈ ((pkTo k ps zs Gs Gs.length).cons.map (fun t => t.ts)).flatten, _
    rw [flat_bs, hok.nt, hbeg]
    exact (nums_once _).2.2
  · show (((pkTo k ps zs Gs Gs.length).cons.map (fun t => t.ts)).flatten).Nodup
    rw [flat_bs, hok.nt, hbeg]
    exact (nums_once _).1
  · show (((pkTo k ps zs Gs Gs.length).cons.map (fun t => t.ts)).flatten).length = _
    rw [flat_bs, hok.nt, hbeg]
    exact (nums_once _).2.1
  · intro t ht i hi
    exact (hF.cb t ht i hi).2
end Go.Proofs.YtelklmdlodgdpaaGreat
