/-
  What stands at the heads of the loops of Groups, and how a round keeps it.
-/
import Derived.Test.YtdahgfopighhlaaSD
namespace Go.Proofs.Ytdahgfopighhlaa
open Go.RowKit
set_option linter.unusedVariables false
theorem Try.infoG : (Try.prog.info? 36).map (fun i => (i.zero, i.size, i.bytes)) = some (some (.agg #[.int .i64 0, .string ⟨#[]⟩, .int .i64 0, .slice none 0 0]), 4, 56) := by kernel_rfl
theorem Try.infoI : (Try.prog.info? 3).map (fun i => (i.zero, i.size, i.bytes)) = some (some (.int .i64 0), 1, 8) := by kernel_rfl
theorem cells_new (W : World) (cs : List Value) (T : TypeId) : ∀ j u, cs[j]? = some u → (W.alloc (.cells cs.toArray T)).cell? ((⟨W.heap.size, 0, none⟩ : Addr).add j) = some u := fun j u h => by
  have hadd : (⟨W.heap.size, 0, none⟩ : Addr).add j = ⟨W.heap.size, j, none⟩ := by unfold Addr.add; split <;> simp_all
  rw [hadd, cell_of_row _ W.heap.size j _ _ _ (alloc_new W _)]
  simpa using h
theorem insB_len (x : ByteArray) (l : List ByteArray) : (insB x l).length ≤ l.length + 1 := by
  induction l with
  | nil => simp [insB]
  | cons y r ih =>
    unfold insB
    split
    · simp
    · split
      · simp
      · simp; exact ih
theorem names_len (l : Lev) (cs : List ByteArray) : (namesOf l cs).length ≤ cs.length := by
  unfold namesOf sortB
  induction cs with
  | nil => simp
  | cons c r ih => rw [List.map_cons, List.foldr_cons]; have := insB_len (grpOf l c) (List.foldr insB [] (r.map (grpOf l))); simp only [List.length_cons]; omega
theorem gStep_len (cs : List ByteArray) (st : List Grp × Nat × Nat) (l : Lev) : (gStep cs st l).1.length = st.1.length + (namesOf l cs).length := by
  unfold gStep
  simp
  omega
theorem gTo_len (ls : List Lev) (cs : List ByteArray) (k : Nat) (h : k ≤ ls.length) : (gTo ls cs k).1.length ≤ k * cs.length ∧ (gTo ls cs k).2.1 ≤ (gTo ls cs k).1.length := by
  induction k with
  | zero => exact ⟨Nat.zero_le _, Nat.le_refl _⟩
  | succ k ih =>
    rw [gTo_succ ls cs k h, gStep_len]
    have := names_len ls[k] cs
    have := ih (by omega)
    refine ⟨by rw [Nat.add_mul]; omega, ?_⟩
    show (gTo ls cs k).1.length ≤ _
    omega
theorem gTo_items (ls : List Lev) (cs : List ByteArray) (k : Nat) (h : k ≤ ls.length) : ∀ g ∈ (gTo ls cs k).1, g.items ≠ [] ∧ ∀ x ∈ g.items, ∃ i : Nat, x = i ∧ i < cs.length := by
  induction k with
  | zero => intro g hg; cases hg
  | succ k ih =>
    rw [gTo_succ ls cs k h]
    intro g hg
    unfold gStep at hg
    simp only [List.append_assoc, List.mem_append, List.mem_map] at hg
    rcases hg with hg | ⟨g', hg, rfl⟩ | ⟨n, hn, rfl⟩
    · exact ih (by omega) g (List.mem_of_mem_take hg)
    · exact ih (by omega) g' (List.mem_of_mem_drop hg)
    · exact ⟨((names_keys ls[k] cs).2 n).1 hn, fun x hx => by
        obtain ⟨i, h1, _, h2⟩ := mem_itemsTo.1 hx
        exact ⟨i, h2, h1⟩⟩
/-- A block that stays as it is. -/
theorem block_grown {w w' : World} {row : Option Nat} {b : Nat} {o : Obj} (hg : w.grownBy w' row) (h : w.heap[b]? = some o) (hne : ∀ g, row = some g → w.heap[g]? ≠ some o) : w'.heap[b]? = some o :=
  (hg.block b (Array.getElem?_eq_some_iff.1 h).1 (fun e => hne b e.symm h)).trans h
def boxL (l : Lev) (sv : Value) : Obj := .cells #[.string l.name, .int .i64 l.pre, sv, .int .i64 l.min, .int .i64 l.cents] 45 (0, 0)
theorem box_of {w : World} {X : Nat} {l : Lev} {sv : Value} (h : w.heap[X]? = some (boxL l sv)) : BoxLev w X l sv :=
  ⟨cell_of_row w X 0 _ _ _ h, cell_of_row w X 1 _ _ _ h, cell_of_row w X 2 _ _ _ h, cell_of_row w X 3 _ _ _ h, cell_of_row w X 4 _ _ _ h⟩
/-- The loop over codes: wr is the world ahead of the level's box. -/
def R2 (wr : World) (l : Lev) (sv : Value) (cs : List ByteArray) (j : Nat) (w2 : World) : Prop :=
  Below wr.heap.size wr w2 ∧ w2.heap[wr.heap.size]? = some (boxL l sv) ∧ GrpsF w2 (wr.heap.size + 2) (wr.heap.size + 1) j (itemsTo l cs j)
theorem R2_start (wr : World) (l : Lev) (sv : Value) (cs : List ByteArray) : R2 wr l sv cs 0 ((wr.alloc (boxL l sv)).alloc (.map #[] 0)) := by
  have e : (wr.alloc (boxL l sv)).heap.size = wr.heap.size + 1 := by simp
  refine ⟨((Below.refl _ wr).alloc (Nat.le_refl _) _).alloc (by simp) _, ?_, ?_⟩
  · have h1 : (wr.alloc (boxL l sv)).heap[wr.heap.size]? = some (boxL l sv) := alloc_new _ _
    exact (((Below.refl _ (wr.alloc (boxL l sv))).alloc (Nat.le_refl _) _).block wr.heap.size (by simp)).trans h1
  · have := GrpsF.made (wr.alloc (boxL l sv))
    rw [e] at this
    rw [itemsTo_zero]
    exact this
/-- A round of the loop over codes. -/
theorem R2_next {wr w2 w3 w4 w5 : World} {l : Lev} {sv : Value} {cs : List ByteArray} {j : Nat} {c : ByteArray} {v : Value} (hj : cs.getD j ⟨#[]⟩ = c) (h : R2 wr l sv cs j w2) (hb3 : Below w2.heap.size w2 w3) (hoi : w3.ownsInts (wr.heap.size + 2) 3 .i64 v (itemsTo l cs j (grpOf l c)))
    (hg4 : w3.grownBy w4 v.ownBlock) (hg5 : w4.grownBy w5 (some (wr.heap.size + 1))) (ho : GrpsF w5 (wr.heap.size + 2) (wr.heap.size + 1) (j + 1) (fun u => if u = grpOf l c then itemsTo l cs j (grpOf l c) ++ [(j : Int)] else itemsTo l cs j u)) : R2 wr l sv cs (j + 1) w5 := by
  obtain ⟨h1, h2, h3⟩ := h
  have h3' := h3.lt
  have hw2 : wr.heap.size ≤ w2.heap.size := h1.size
  have a3 : Below wr.heap.size wr w3 := below_c h1 h1.size hb3
  have hlt : ∀ r, v.ownBlock = some r → wr.heap.size + 2 ≤ r := fun r e => (hoi.1.lt r e).1
  have a4 : Below wr.heap.size wr w4 := a3.grown hg4 a3.size (fun r e => by have := hlt r e; omega)
  have a5 : Below wr.heap.size wr w5 := below_row a4 hg5 a4.size (by omega)
  refine ⟨a5, ?_, by rw [itemsTo_succ l cs j c hj]; exact ho⟩
  have b3 : w3.heap[wr.heap.size]? = some (boxL l sv) := (hb3.block wr.heap.size (Array.getElem?_eq_some_iff.1 h2).1).trans h2
  have b4 : w4.heap[wr.heap.size]? = some (boxL l sv) := (hg4.block wr.heap.size (Array.getElem?_eq_some_iff.1 b3).1 (fun e => by have := hlt _ e.symm; omega)).trans b3
  exact (hg5.block wr.heap.size (Array.getElem?_eq_some_iff.1 b4).1 (fun e => by injection e with e; omega)).trans b4
open Classical in
noncomputable def atF (n : Nat) (names : List ByteArray) (j : Nat) (u : ByteArray) : Option Int := if u ∈ names.take j then some ((n + idx u names : Nat) : Int) else none
abbrev OwnsSI := OwnsF 3 (Lit.int .i64)
/-- The loop over names: X: the level's box; W2: the world in which the map was filled; B2: the map of places. -/
def R3 (w W2 : World) (X B2 : Nat) (k : Nat) (l : Lev) (sv : Value) (cs names : List ByteArray) (gs : List Grp) (vn : Value) (j : Nat) (v : Value) (w3 : World) : Prop :=
  Below w.heap.size w w3 ∧ w3.heap[X]? = some (boxL l sv) ∧ w3.heap[X + 1]? = W2.heap[X + 1]? ∧ (∃ es cl, W2.heap[X + 1]? = some (.map es cl)) ∧
  (∀ s ∈ names, ∃ u, (∀ W : World, W.heap[X + 1]? = W2.heap[X + 1]? → (Instr.lookup 65 (.map (some (X + 1))) (.string s) false).run Try.prog W = .ok u W) ∧ RowI w3 u (itemsTo l cs cs.length s)) ∧
  OwnsT w3 0 vn names ∧ OwnsG w3 w.heap.size v (gs ++ (names.take j).map (mkG k l cs)) ∧ OwnsSI w3 B2 j (atF gs.length names j) ∧ w.heap.size ≤ B2 ∧ X + 1 ≠ B2
theorem atF_next {n : Nat} {names : List ByteArray} {j : Nat} (hs : StrictB names) (hj : j < names.length) : (fun u => if u = names[j] then some ((n + j : Nat) : Int) else atF n names j u) = atF n names (j + 1) := by
  funext u
  unfold atF
  rw [List.take_succ_eq_append_getElem hj]
  by_cases e : u = names[j]
  · rw [if_pos e, if_pos (by rw [e]; exact List.mem_append_right _ (List.mem_singleton.2 rfl)), e, idx_getElem hs hj]
  · rw [if_neg e]
    by_cases e2 : u ∈ names.take j
    · rw [if_pos e2, if_pos (List.mem_append_left _ e2)]
    · rw [if_neg e2, if_neg (fun h => by rcases List.mem_append.1 h with h | h
                                         · exact e2 h
                                         · exact e (List.mem_singleton.1 h))]
theorem OwnsT.grown {w w' : World} {base C : Nat} {v : Value} {l : List ByteArray} (h : OwnsT w base v l) (hg : w.grownBy w' (some C)) (hC : ∀ cur fr, w.heap[C]? ≠ some (.cells cur 9 fr)) : OwnsT w' base v l := by
  refine h.kept hg (.inr (fun e => ?_))
  obtain ⟨_, hv | ⟨g, cap, cur, rfl, _, hh, _⟩⟩ := h
  · rw [hv.1] at e; cases e
  · cases e; exact hC _ _ hh
/-- Behind the store into the map of places. -/
theorem R3_store {w W2 w3 w4 : World} {X B2 k : Nat} {l : Lev} {sv : Value} {cs names : List ByteArray} {gs : List Grp} {vn v : Value} {j : Nat} (h : R3 w W2 X B2 k l sv cs names gs vn j v w3) (hj : j < names.length) (hs : StrictB names) (hg : w3.grownBy w4 (some B2))
    (ho : OwnsSI w4 B2 (j + 1) (fun u => if u = names[j] then some ((gs.length + j : Nat) : Int) else atF gs.length names j u)) :
    Below w.heap.size w w4 ∧ w4.heap[X]? = some (boxL l sv) ∧ w4.heap[X + 1]? = W2.heap[X + 1]? ∧ (∀ s ∈ names, ∃ u, (∀ W : World, W.heap[X + 1]? = W2.heap[X + 1]? → (Instr.lookup 65 (.map (some (X + 1))) (.string s) false).run Try.prog W = .ok u W) ∧ RowI w4 u (itemsTo l cs cs.length s)) ∧
    OwnsT w4 0 vn names ∧ OwnsG w4 w.heap.size v (gs ++ (names.take j).map (mkG k l cs)) ∧ OwnsSI w4 B2 (j + 1) (atF gs.length names (j + 1)) := by
  obtain ⟨h1, h2, h3, ⟨es, cl, hm⟩, h4, h5, h6, h7, h8, h9⟩ := h
  have hC := owns_map_block h7
  refine ⟨below_row h1 hg h1.size h8, block_grown hg h2 (fun g e => by cases e; exact hC _ _ _), ?_, fun s hs => ?_, h5.grown hg (fun cur fr => hC cur _ fr), h6.grown hg hC, by rw [← atF_next hs hj]; exact ho⟩
  · rw [← h3]
    have hx := h3.trans hm
    exact hg.block _ (Array.getElem?_eq_some_iff.1 hx).1 (fun e => h9 (by injection e))
  · obtain ⟨u, hu, hr⟩ := h4 s hs
    exact ⟨u, hu, hr.grown hg (fun g e cur fr => by cases e; exact hC _ _ _)⟩
theorem own_not {w : World} {base : Nat} {e : TypeId} {size : Nat} {v : Value} {n : Nat} {xs : List Value} (h : w.ownsRow base e size v n xs) {T : TypeId} (hT : T ≠ e) : ∀ g, v.ownBlock = some g → ∀ cur fr, w.heap[g]? ≠ some (.cells cur T fr) := by
  intro g hg cur fr e'
  obtain ⟨_, hv | ⟨g', cap, cur', rfl, _, hh, _⟩⟩ := h
  · rw [hv.1] at hg; cases hg
  · cases hg
    rw [hh] at e'
    injection e' with e'
    injection e' with _ e' _
    exact hT e'.symm
theorem own_not_map {w : World} {base : Nat} {e : TypeId} {size : Nat} {v : Value} {n : Nat} {xs : List Value} (h : w.ownsRow base e size v n xs) : ∀ g, v.ownBlock = some g → ∀ es cl, w.heap[g]? ≠ some (.map es cl) := by
  intro g hg cur fr e'
  obtain ⟨_, hv | ⟨g', cap, cur', rfl, _, hh, _⟩⟩ := h
  · rw [hv.1] at hg; cases hg
  · cases hg
    rw [hh] at e'
    cases e'
/-- Behind the append. -/
theorem R3_next {w W2 w4 w5 : World} {X B2 k : Nat} {l : Lev} {sv : Value} {cs names : List ByteArray} {gs : List Grp} {vn v v' su : Value} {j : Nat} {L : List (Grp × Value)} (hj : j < names.length) (hm : ∃ es cl, W2.heap[X + 1]? = some (.map es cl))
    (h1 : Below w.heap.size w w4) (h2 : w4.heap[X]? = some (boxL l sv)) (h3 : w4.heap[X + 1]? = W2.heap[X + 1]?) (h4 : ∀ s ∈ names, ∃ u, (∀ W : World, W.heap[X + 1]? = W2.heap[X + 1]? → (Instr.lookup 65 (.map (some (X + 1))) (.string s) false).run Try.prog W = .ok u W) ∧ RowI w4 u (itemsTo l cs cs.length s))
    (h5 : OwnsT w4 0 vn names) (h7 : OwnsSI w4 B2 (j + 1) (atF gs.length names (j + 1))) (h8 : w.heap.size ≤ B2) (h9 : X + 1 ≠ B2)
    (hL : L.map Prod.fst = gs ++ (names.take j).map (mkG k l cs)) (hLr : ∀ p ∈ L, RowI w4 p.2 p.1.items) (hLo : w4.ownsRow w.heap.size 36 4 v L.length (L.flatMap gCell)) (hsu : RowI w4 su (itemsTo l cs cs.length names[j]))
    {o : Obj} (hg : (w4.alloc o).grownBy w5 v.ownBlock) (ho : w5.ownsRow w.heap.size 36 4 v' (L.length + 1) (L.flatMap gCell ++ gCell (mkG k l cs names[j], su))) : R3 w W2 X B2 k l sv cs names gs vn (j + 1) v' w5 := by
  have hbA : Below w4.heap.size w4 (w4.alloc o) := (Below.refl _ w4).alloc (Nat.le_refl _) o
  have hLo' := hLo.alloc o
  have nI := own_not hLo' (T := 3) (by decide)
  have nS := own_not hLo' (T := 9) (by decide)
  have nL := own_not hLo' (T := 45) (by decide)
  have nM := own_not_map hLo'
  have a1 : (w4.alloc o).heap[X]? = some (boxL l sv) := (hbA.block X (Array.getElem?_eq_some_iff.1 h2).1).trans h2
  obtain ⟨es, cl, hm⟩ := hm
  have x1 := h3.trans hm
  have a2 : (w4.alloc o).heap[X + 1]? = some (.map es cl) := (hbA.block (X + 1) (Array.getElem?_eq_some_iff.1 x1).1).trans x1
  have h7' := h7.alloc o
  have kR : ∀ {u : Value} {zs : List Int}, RowI w4 u zs → RowI w5 u zs := fun hr => (hr.below hbA).grown hg (fun g e cur fr => nI g e cur fr)
  refine ⟨?_, block_grown hg a1 (fun g e => nL g e _ _), ?_, ⟨es, cl, hm⟩, fun s hs => ?_, ?_, ⟨L ++ [(mkG k l cs names[j], su)], ?_, ?_, ?_⟩, ?_, h8, h9⟩
  · exact (h1.alloc h1.size o).grown hg (by have := h1.size; simp; omega) (fun r e => (hLo.lt r e).1)
  · rw [hm]; exact block_grown hg a2 (fun g e => nM g e _ _)
  · obtain ⟨u, hu, hr⟩ := h4 s hs
    exact ⟨u, hu, kR hr⟩
  · have := h5.alloc o
    cases hv : v.ownBlock with
    | none => rw [hv] at hg; exact this.kept hg (Classical.em _)
    | some g => rw [hv] at hg; exact OwnsT.grown this hg (fun cur fr => nS g hv cur fr)
  · rw [List.map_append, hL, List.take_succ_eq_append_getElem hj, List.map_append]; simp
  · intro p hp
    rcases List.mem_append.1 hp with hp | hp
    · exact kR (hLr p hp)
    · rw [List.mem_singleton.1 hp]; exact kR hsu
  · rw [List.flatMap_append, List.length_append]; simpa using ho
  · refine h7'.kept hg (fun e => ?_)
    obtain ⟨D, ⟨es', cl', hb, _⟩, _⟩ := h7'
    exact nM B2 e.symm _ _ hb
def upd (gs : List Grp) (b j : Nat) (f : Grp → Grp) : List Grp := gs.mapIdx (fun i g => if b ≤ i ∧ i < j then f g else g)
theorem upd_len (gs : List Grp) (b j : Nat) (f : Grp → Grp) : (upd gs b j f).length = gs.length := by unfold upd; simp
theorem upd_start (gs : List Grp) (b : Nat) (f : Grp → Grp) : upd gs b b f = gs := by
  apply List.ext_getElem?
  intro i
  unfold upd
  rw [List.getElem?_mapIdx]
  cases gs[i]? with
  | none => rfl
  | some g => simp; intro h1 h2; omega
theorem upd_get (gs : List Grp) (b j : Nat) (f : Grp → Grp) (hj : j < gs.length) : (upd gs b j f)[j]? = some gs[j] := by
  unfold upd
  rw [List.getElem?_mapIdx, List.getElem?_eq_getElem hj]
  simp
theorem upd_next (gs : List Grp) (b j : Nat) (f : Grp → Grp) (hj : j < gs.length) (hb : b ≤ j) : (upd gs b j f).set j (f gs[j]) = upd gs b (j + 1) f := by
  apply List.ext_getElem?
  intro i
  rw [List.getElem?_set]
  by_cases e : j = i
  · subst e
    rw [if_pos rfl, if_pos (by rw [upd_len]; exact hj)]
    unfold upd
    rw [List.getElem?_mapIdx, List.getElem?_eq_getElem hj]
    simp
    omega
  · rw [if_neg e]
    unfold upd
    rw [List.getElem?_mapIdx, List.getElem?_mapIdx]
    cases gs[i]? with
    | none => rfl
    | some g =>
      have : (b ≤ i ∧ i < j) ↔ (b ≤ i ∧ i < j + 1) := by omega
      simp [this]
theorem upd_end (gs : List Grp) (b : Nat) (f : Grp → Grp) (hb : b ≤ gs.length) : upd gs b gs.length f = gs.take b ++ (gs.drop b).map f := by
  apply List.ext_getElem?
  intro i
  unfold upd
  rw [List.getElem?_mapIdx]
  by_cases hi : i < b
  · rw [List.getElem?_append_left (by simp; omega), List.getElem?_take_of_lt hi, List.getElem?_eq_getElem (by omega)]
    simp
    omega
  · rw [List.getElem?_append_right (by simp; omega), List.getElem?_map, List.getElem?_drop]
    have e : b + (i - (gs.take b).length) = i := by simp; omega
    rw [e]
    cases hg : gs[i]? with
    | none => rfl
    | some g =>
      have : i < gs.length := (List.getElem?_eq_some_iff.1 hg).1
      simp
      omega
/-- The loop that sets Up. -/
def R4 (w : World) (X B2 k : Nat) (l : Lev) (sv : Value) (cs names : List ByteArray) (gs : List Grp) (b j : Nat) (v : Value) (w4 : World) : Prop :=
  Below w.heap.size w w4 ∧ w4.heap[X]? = some (boxL l sv) ∧ OwnsG w4 w.heap.size v (upd gs b j (upTo l cs gs.length) ++ names.map (mkG k l cs)) ∧ OwnsSI w4 B2 names.length (atF gs.length names names.length)
theorem R4_start {w W2 w3 : World} {X B2 k : Nat} {l : Lev} {sv : Value} {cs names : List ByteArray} {gs : List Grp} {vn v : Value} {b j : Nat} (h : R3 w W2 X B2 k l sv cs names gs vn j v w3) (hj : j = names.length) : R4 w X B2 k l sv cs names gs b b v w3 := by
  obtain ⟨h1, h2, h3, hm, h4, h5, h6, h7, h8, h9⟩ := h
  subst hj
  rw [List.take_of_length_le (Nat.le_refl _)] at h6
  exact ⟨h1, h2, by rw [upd_start]; exact h6, h7⟩
theorem OwnsG.slot {w : World} {base g cap n j : Nat} {GS : List Grp} (h : OwnsG w base (.slice (some ⟨g, 0, none⟩) n cap) GS) (hj : j < GS.length) :
    ∃ su, w.cell? ⟨g, j * 4, none⟩ = some (.int .i64 GS[j].lvl) ∧ w.cell? ⟨g, j * 4 + 1, none⟩ = some (.string GS[j].name) ∧ w.cell? ⟨g, j * 4 + 2, none⟩ = some (.int .i64 GS[j].up) ∧ w.cell? ⟨g, j * 4 + 3, none⟩ = some su ∧ RowI w su GS[j].items ∧ (∀ o, w.frozen? ⟨g, o, none⟩ = false) ∧ base ≤ g ∧ g < w.heap.size ∧ n = GS.length ∧
      ∀ x, OwnsG (w.setCell ⟨g, j * 4 + 2, none⟩ (.int .i64 x)) base (.slice (some ⟨g, 0, none⟩) n cap) (GS.set j { GS[j] with up := x }) ∧ w.grownBy (w.setCell ⟨g, j * 4 + 2, none⟩ (.int .i64 x)) (some g) ∧ ∀ T, T ≠ 36 → ∀ cur fr, w.heap[g]? ≠ some (.cells cur T fr) := by
  obtain ⟨L, rfl, hr, ho⟩ := h
  rw [List.length_map] at hj
  have hn : n = L.length := by
    obtain ⟨_, hv | ⟨g', cap', cur, hv, _⟩⟩ := ho
    · cases hv.1
    · injection hv
  subst hn
  have hlt := ho.lt g rfl
  refine ⟨L[j].2, ?_, ?_, ?_, ?_, by simpa using hr _ (List.getElem_mem hj), fun o => ho.frozenAt o, hlt.1, hlt.2, by simp, fun x => ?_⟩
  · rw [ho.cellAt _ (by omega), show j * 4 = j * 4 + 0 from rfl, gCells_get L j 0 hj (by omega)]; simp [gCell]
  · rw [ho.cellAt _ (by omega), gCells_get L j 1 hj (by omega)]; simp [gCell]
  · rw [ho.cellAt _ (by omega), gCells_get L j 2 hj (by omega)]; simp [gCell]
  · rw [ho.cellAt _ (by omega), gCells_get L j 3 hj (by omega)]; simp [gCell]
  · obtain ⟨s1, s2⟩ := ho.stored (j * 4 + 2) (.int .i64 x)
    have nI := own_not ho (T := 3) (by decide) g rfl
    refine ⟨⟨L.set j ({ L[j].1 with up := x }, L[j].2), ?_, ?_, ?_⟩, s2, fun T hT => own_not ho hT g rfl⟩
    · rw [List.map_set]; simp
    · intro p hp
      have key : ∀ {u : Value} {zs : List Int}, RowI w u zs → RowI (w.setCell ⟨g, j * 4 + 2, none⟩ (.int .i64 x)) u zs := fun hrr => hrr.grown s2 (fun g' e cur fr => by cases e; exact nI cur fr)
      rcases List.mem_or_eq_of_mem_set hp with hp | rfl
      · exact key (hr p hp)
      · exact key (hr L[j] (List.getElem_mem hj))
    · rw [← gCells_set L j hj x, List.length_set]; exact s1
theorem R4_next {w w4 w5 : World} {X B2 k : Nat} {l : Lev} {sv : Value} {cs names : List ByteArray} {gs : List Grp} {b j g n cap : Nat} (hb5 : Below w.heap.size w w5) (hX : w5.heap[X]? = some (boxL l sv)) (hG : OwnsG w5 w.heap.size (.slice (some ⟨g, 0, none⟩) n cap) (upd gs b j (upTo l cs gs.length) ++ names.map (mkG k l cs)))
    (hA : OwnsSI w5 B2 names.length (atF gs.length names names.length)) (hj : j < gs.length) (hbj : b ≤ j) {x : Int} (hx : { gs[j] with up := x } = upTo l cs gs.length gs[j]) : R4 w X B2 k l sv cs names gs b (j + 1) (.slice (some ⟨g, 0, none⟩) n cap) (w5.setCell ⟨g, j * 4 + 2, none⟩ (.int .i64 x)) := by
  have hjl : j < (upd gs b j (upTo l cs gs.length) ++ names.map (mkG k l cs)).length := by rw [List.length_append, upd_len]; omega
  obtain ⟨su, c0, c1, c2, c3, hr, hfz, hbg, hgl, hn, hst⟩ := hG.slot hjl
  obtain ⟨s1, s2, s3⟩ := hst x
  have hget : (upd gs b j (upTo l cs gs.length) ++ names.map (mkG k l cs))[j] = gs[j] := by
    have e := upd_get gs b j (upTo l cs gs.length) hj
    rw [List.getElem_append_left (by rw [upd_len]; exact hj)]
    exact (List.getElem?_eq_some_iff.1 e).2
  refine ⟨below_row hb5 s2 hb5.size hbg, block_grown s2 hX (fun g' e => by cases e; exact s3 _ (by decide) _ _), ?_, hA.kept s2 (fun e => ?_)⟩
  · rw [hget, hx, List.set_append_left _ _ (by rw [upd_len]; exact hj), upd_next gs b j _ hj hbj] at s1
    exact s1
  · obtain ⟨D, ⟨es', cl', hb, _⟩, _⟩ := hA
    injection e with e
    subst e
    obtain ⟨L, _, _, ho⟩ := hG
    exact own_not_map ho B2 rfl _ _ hb
theorem mem_names {l : Lev} {cs : List ByteArray} {i : Nat} (h : i < cs.length) : grpOf l cs[i] ∈ namesOf l cs := by
  unfold namesOf; rw [mem_sortB]; exact List.mem_map.2 ⟨_, List.getElem_mem h, rfl⟩
theorem OwnsT.zero {w : World} {base : Nat} {v : Value} {l : List ByteArray} (h : OwnsT w base v l) : OwnsT w 0 v l := by
  obtain ⟨h1, h2 | ⟨g, cap, cur, hv, hb, r⟩⟩ := h
  · exact ⟨h1, .inl h2⟩
  · exact ⟨h1, .inr ⟨g, cap, cur, hv, Nat.zero_le _, r⟩⟩
theorem R3_start {w wo W2 w3 : World} {k : Nat} {l : Lev} {sv : Value} {cs names : List ByteArray} {gs : List Grp} {vn v : Value} {base : Nat} (hB : Below w.heap.size w wo) (hG : OwnsG wo w.heap.size v gs) (h2 : R2 wo l sv cs cs.length W2) (hb3 : Below (W2.alloc (.map #[] 0)).heap.size (W2.alloc (.map #[] 0)) w3)
    (hk : KeysAre (itemsTo l cs cs.length) names) (hns : ∀ s ∈ names, s.size ≤ maxLen) (hot : OwnsT w3 base vn names) : R3 w W2 wo.heap.size W2.heap.size k l sv cs names gs vn 0 v w3 := by
  obtain ⟨q1, q2, q3⟩ := h2
  have b3 : Below W2.heap.size W2 w3 := below_ac (Below.refl _ W2) (Nat.le_refl _) hb3
  have hw := hB.size
  have hq := q1.size
  have hlt := q3.lt
  have bo : Below wo.heap.size wo w3 := q1.trans (b3.mono hq)
  refine ⟨hB.trans (bo.mono hw), (b3.block _ (Array.getElem?_eq_some_iff.1 q2).1).trans q2, b3.block _ hlt.1, ?_, fun s hs => ?_, hot.zero, ?_, ?_, by omega, by omega⟩
  · obtain ⟨D, ⟨es, cl, hb, _⟩, _⟩ := q3
    exact ⟨es, cl, hb⟩
  · obtain ⟨u, hu, hrow⟩ := q3.read s (hns s hs)
    exact ⟨u, hu, (hrow ((hk.2 s).1 hs)).below b3⟩
  · rw [List.take_zero, List.map_nil, List.append_nil]
    exact hG.below bo
  · have := (OwnsF.made (E := 3) (enc := Lit.int .i64) W2).below hb3
    have e : (fun _ : ByteArray => (none : Option Int)) = atF gs.length names 0 := by funext u; unfold atF; rw [if_neg (by simp)]
    rw [e] at this
    exact this
/-- Between the store into the map of places and the append. -/
def R3M (w W2 : World) (X B2 : Nat) (k : Nat) (l : Lev) (sv : Value) (cs names : List ByteArray) (gs : List Grp) (vn : Value) (j : Nat) (v : Value) (w4 : World) : Prop :=
  Below w.heap.size w w4 ∧ w4.heap[X]? = some (boxL l sv) ∧ w4.heap[X + 1]? = W2.heap[X + 1]? ∧ (∀ s ∈ names, ∃ u, (∀ W : World, W.heap[X + 1]? = W2.heap[X + 1]? → (Instr.lookup 65 (.map (some (X + 1))) (.string s) false).run Try.prog W = .ok u W) ∧ RowI w4 u (itemsTo l cs cs.length s)) ∧
    OwnsT w4 0 vn names ∧ OwnsSI w4 B2 (j + 1) (atF gs.length names (j + 1)) ∧ w.heap.size ≤ B2 ∧ X + 1 ≠ B2 ∧ ∃ es cl, W2.heap[X + 1]? = some (.map es cl)
theorem R3_mid {w W2 w3 w4 : World} {X B2 k : Nat} {l : Lev} {sv : Value} {cs names : List ByteArray} {gs : List Grp} {vn v : Value} {j : Nat} {nm : ByteArray} (h : R3 w W2 X B2 k l sv cs names gs vn j v w3) (hj : j < names.length) (hnm : names[j] = nm) (hs : StrictB names) (hg : w3.grownBy w4 (some B2)) {y : Int} (hy : y = ((gs.length + j : Nat) : Int))
    (ho : OwnsSI w4 B2 (j + 1) (fun u => if u = nm then some y else atF gs.length names j u)) :
    ∃ gi ci, (Instr.lookup 65 (.map (some (X + 1))) (.string nm) false).run Try.prog w4 = .ok (.slice (some ⟨gi, 0, none⟩) (itemsTo l cs cs.length nm).length ci) w4 ∧ RowI w4 (.slice (some ⟨gi, 0, none⟩) (itemsTo l cs cs.length nm).length ci) (itemsTo l cs cs.length nm) ∧ R3M w W2 X B2 k l sv cs names gs vn j v w4 ∧
      ∃ L : List (Grp × Value), L.map Prod.fst = gs ++ (names.take j).map (mkG k l cs) ∧ (∀ p ∈ L, RowI w4 p.2 p.1.items) ∧ L.length = gs.length + j ∧ w4.ownsRow w.heap.size 36 4 v (gs.length + j) (L.flatMap gCell) := by
  subst hnm hy
  obtain ⟨s1, s2, s3, s4, s5, s6, s7⟩ := R3_store h hj hs hg ho
  obtain ⟨h1, h2, h3, hm, h4, h5, h6, h7, h8, h9⟩ := h
  obtain ⟨su, hsu, hrow⟩ := s4 names[j] (List.getElem_mem hj)
  have hrow' := hrow
  obtain ⟨gi, ci, cur, rfl, _, _⟩ := hrow'
  obtain ⟨L, hL, hLr, hLo⟩ := s6
  have hlen : L.length = gs.length + j := by
    rw [← List.length_map (f := Prod.fst), hL]; simp; omega
  exact ⟨gi, ci, hsu _ s3, hrow, ⟨s1, s2, s3, s4, s5, s7, h8, h9, hm⟩, L, hL, hLr, hlen, by rw [← hlen]; exact hLo⟩
theorem R3_last {w W2 w4 w5 : World} {X B2 k : Nat} {l : Lev} {sv : Value} {cs names : List ByteArray} {gs : List Grp} {vn v v' su : Value} {j : Nat} {nm : ByteArray} {L : List (Grp × Value)} (hj : j < names.length) (hnm : names[j] = nm) (hM : R3M w W2 X B2 k l sv cs names gs vn j v w4)
    (hL : L.map Prod.fst = gs ++ (names.take j).map (mkG k l cs)) (hLr : ∀ p ∈ L, RowI w4 p.2 p.1.items) (hlen : L.length = gs.length + j) (hLo : w4.ownsRow w.heap.size 36 4 v (gs.length + j) (L.flatMap gCell)) (hsu : RowI w4 su (itemsTo l cs cs.length nm))
    {o : Obj} (hg : (w4.alloc o).grownBy w5 v.ownBlock) (ho : w5.ownsRow w.heap.size 36 4 v' (gs.length + j + 1) (L.flatMap gCell ++ gCell (mkG k l cs nm, su))) : R3 w W2 X B2 k l sv cs names gs vn (j + 1) v' w5 := by
  subst hnm
  obtain ⟨s1, s2, s3, s4, s5, s7, h8, h9, hm⟩ := hM
  rw [← hlen] at hLo ho
  exact R3_next hj hm s1 s2 s3 s4 s5 s7 h8 h9 hL hLr hLo hsu hg ho
theorem headD_get {l : List Int} (h : 0 < l.length) : l.headD 0 = l[0] := by
  cases l with
  | nil => simp at h
  | cons x r => rfl
theorem R4_open {w w4 : World} {X B2 k : Nat} {l : Lev} {sv : Value} {cs names : List ByteArray} {gs : List Grp} {b j : Nat} {v : Value} (h : R4 w X B2 k l sv cs names gs b j v w4) (hj : j < gs.length) (hit : gs[j].items ≠ [] ∧ ∀ x ∈ gs[j].items, ∃ i : Nat, x = i ∧ i < cs.length) :
    ∃ g cap gi ci i n up, v = .slice (some ⟨g, 0, none⟩) (gs.length + names.length) cap ∧ i < cs.length ∧ (gs[j].items.headD 0).toNat = i ∧ 0 < n ∧ n ≤ cs.length + gs[j].items.length ∧ w4.cell? ⟨g, j * 4 + 3, none⟩ = some (.slice (some ⟨gi, 0, none⟩) n ci) ∧ w4.cell? ⟨gi, 0, none⟩ = some (.int .i64 ((i : Nat) : Int)) ∧
      w4.cell? ⟨g, j * 4 + 2, none⟩ = some (.int .i64 up) ∧ w4.frozen? ⟨g, j * 4 + 2, none⟩ = false ∧ g < w4.heap.size ∧ gi < w4.heap.size := by
  obtain ⟨h1, h2, h3, h4⟩ := h
  have hlen : (upd gs b j (upTo l cs gs.length) ++ names.map (mkG k l cs)).length = gs.length + names.length := by rw [List.length_append, upd_len, List.length_map]
  have hform : ∃ g cap, v = .slice (some ⟨g, 0, none⟩) (gs.length + names.length) cap := by
    obtain ⟨L, hL, _, ho⟩ := h3
    have hLl : L.length = gs.length + names.length := by rw [← List.length_map (f := Prod.fst), hL, hlen]
    rw [hLl] at ho
    exact Joins.ownsRow_form ho (by omega)
  obtain ⟨g, cap, rfl⟩ := hform
  have hjl : j < (upd gs b j (upTo l cs gs.length) ++ names.map (mkG k l cs)).length := by rw [hlen]; omega
  obtain ⟨su, c0, c1, c2, c3, hr, hfz, hbg, hgl, hn, hst⟩ := h3.slot hjl
  have hget : (upd gs b j (upTo l cs gs.length) ++ names.map (mkG k l cs))[j] = gs[j] := by
    have e := upd_get gs b j (upTo l cs gs.length) hj
    rw [List.getElem_append_left (by rw [upd_len]; exact hj)]
    exact (List.getElem?_eq_some_iff.1 e).2
  rw [hget] at hr c2
  have hr' := hr
  obtain ⟨gi, ci, cur, rfl, hh, _⟩ := hr'
  obtain ⟨hne, hall⟩ := hit
  have hpos : 0 < gs[j].items.length := List.length_pos_iff.2 hne
  have hcell := hr.cell hpos
  obtain ⟨i, hi, hil⟩ := hall _ (List.getElem_mem hpos)
  have hhd : gs[j].items.headD 0 = gs[j].items[0] := headD_get hpos
  exact ⟨g, cap, gi, ci, i, _, _, rfl, hil, by rw [hhd, hi]; rfl, hpos, by omega, c3, by rw [hcell, hi], c2, hfz _, hgl, (Array.getElem?_eq_some_iff.1 hh).1⟩
theorem R4_close {w w4 w5 : World} {X B2 k : Nat} {l : Lev} {sv : Value} {cs names : List ByteArray} {gs : List Grp} {b j g n cap i : Nat} (h : R4 w X B2 k l sv cs names gs b j (.slice (some ⟨g, 0, none⟩) n cap) w4) (hb : Below w4.heap.size w4 w5) (hj : j < gs.length) (hbj : b ≤ j) (hi : i < cs.length) (hhd : (gs[j].items.headD 0).toNat = i) (hnm : names = namesOf l cs) {nm : ByteArray} (hn : grpOf l cs[i] = nm) (hns : nm.size ≤ maxLen) :
    ∃ y, (Instr.lookup 67 (.map (some B2)) (.string nm) false).run Try.prog w5 = .ok (.int .i64 y) w5 ∧ R4 w X B2 k l sv cs names gs b (j + 1) (.slice (some ⟨g, 0, none⟩) n cap) (w5.setCell ⟨g, j * 4 + 2, none⟩ (.int .i64 y)) := by
  obtain ⟨h1, h2, h3, h4⟩ := h
  have hmem : nm ∈ names := by rw [hnm, ← hn]; exact mem_names hi
  have h4' := h4.below hb
  have hlk := h4'.look intLaw Try.underlying67 hns
  have hat : atF gs.length names names.length nm = some ((gs.length + idx nm names : Nat) : Int) := by
    unfold atF; rw [if_pos (by rw [List.take_of_length_le (Nat.le_refl _)]; exact hmem)]
  rw [hat] at hlk
  refine ⟨_, hlk, R4_next (w4 := w4) (below_c h1 h1.size hb) ((hb.block _ (Array.getElem?_eq_some_iff.1 h2).1).trans h2) (h3.below hb) h4' hj hbj ?_⟩
  have hgd : cs.getD i ⟨#[]⟩ = cs[i] := by rw [List.getD_eq_getElem?_getD, List.getElem?_eq_getElem hi]; rfl
  unfold upTo
  rw [hhd, hgd, hn, hnm]
  rfl
theorem R4_done {w w4 : World} {X B2 k : Nat} {l : Lev} {sv : Value} {cs names : List ByteArray} {st : List Grp × Nat × Nat} {b : Nat} {v : Value} (h : R4 w X B2 k l sv cs names st.1 b st.1.length v w4) (hnm : names = namesOf l cs) (hb : b = st.2.1) (hle : st.2.1 ≤ st.1.length) (hk : st.2.2 = k) : OwnsG w4 w.heap.size v (gStep cs st l).1 := by
  obtain ⟨h1, h2, h3, h4⟩ := h
  subst hb hk hnm
  rw [upd_end _ _ _ hle] at h3
  exact h3
end Go.Proofs.Ytdahgfopighhlaa
