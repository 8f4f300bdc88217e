/-
  Groups in plain words, and how they lie in memory.
-/
import Derived.Test.YtdahgfopighhlaaSC
namespace Go.Proofs.Ytdahgfopighhlaa
open Go.RowKit
set_option linter.unusedVariables false
structure Grp where
  lvl : Int
  name : ByteArray
  up : Int
  items : List Int
/-- A text put into texts that are in order. -/
def insB (x : ByteArray) : List ByteArray → List ByteArray
  | [] => [x]
  | y :: r => if ltB x y then x :: y :: r else if x = y then y :: r else y :: insB x r
theorem mem_insB {x s : ByteArray} {l : List ByteArray} : s ∈ insB x l ↔ s = x ∨ s ∈ l := by
  induction l with
  | nil => simp [insB]
  | cons y r ih =>
    unfold insB
    split
    · simp
    · split
      · rename_i h; subst h; simp
      · simp only [List.mem_cons, ih]
        constructor
        · rintro (h | h | h)
          · exact .inr (.inl h)
          · exact .inl h
          · exact .inr (.inr h)
        · rintro (h | h | h)
          · exact .inr (.inl h)
          · exact .inl h
          · exact .inr (.inr h)
theorem strict_insB {x : ByteArray} {l : List ByteArray} (h : StrictB l) : StrictB (insB x l) := by
  unfold StrictB at *
  induction l with
  | nil => simp [insB]
  | cons y r ih =>
    obtain ⟨h1, h2⟩ := List.pairwise_cons.1 h
    unfold insB
    split
    · rename_i hxy
      exact List.pairwise_cons.2 ⟨fun z hz => by
        rcases List.mem_cons.1 hz with rfl | hz
        · exact hxy
        · exact ltB_trans hxy (h1 z hz), h⟩
    · split
      · exact h
      · rename_i h3 h4
        refine List.pairwise_cons.2 ⟨fun z hz => ?_, ih h2⟩
        rcases mem_insB.1 hz with rfl | hz
        · rcases ltB_tri z y with h5 | h5 | h5
          · rw [h5] at h3; exact absurd rfl h3
          · exact absurd h5 h4
          · exact h5
        · exact h1 z hz
def sortB (l : List ByteArray) : List ByteArray := l.foldr insB []
theorem mem_sortB {s : ByteArray} {l : List ByteArray} : s ∈ sortB l ↔ s ∈ l := by
  unfold sortB
  induction l with
  | nil => simp
  | cons y r ih => rw [List.foldr_cons, mem_insB, ih, List.mem_cons]
theorem strict_sortB (l : List ByteArray) : StrictB (sortB l) := by
  unfold sortB
  induction l with
  | nil => exact List.Pairwise.nil
  | cons y r ih => rw [List.foldr_cons]; exact strict_insB ih
/-- The names of the groups of codes at a level, in order. -/
def namesOf (l : Lev) (cs : List ByteArray) : List ByteArray := sortB (cs.map (grpOf l))
/-- The codes of a group, by their indices, among the first k. -/
def itemsTo (l : Lev) (cs : List ByteArray) (k : Nat) (u : ByteArray) : List Int := ((List.range k).filter (fun i => decide (grpOf l (cs.getD i ⟨#[]⟩) = u))).map Int.ofNat
theorem itemsTo_zero (l : Lev) (cs : List ByteArray) : itemsTo l cs 0 = fun _ => [] := rfl
theorem itemsTo_succ (l : Lev) (cs : List ByteArray) (k : Nat) (c : ByteArray) (hc : cs.getD k ⟨#[]⟩ = c) : itemsTo l cs (k + 1) = fun u => if u = grpOf l c then itemsTo l cs k (grpOf l c) ++ [(k : Int)] else itemsTo l cs k u := by
  funext u
  unfold itemsTo
  rw [List.range_succ, List.filter_append, List.map_append]
  by_cases e : u = grpOf l c
  · rw [if_pos e]
    subst e
    rw [List.filter_cons_of_pos (by rw [hc]; simp), List.filter_nil]
    rfl
  · rw [if_neg e]
    have : ¬ grpOf l (cs.getD k ⟨#[]⟩) = u := by rw [hc]; exact fun h => e h.symm
    rw [List.filter_cons_of_neg (by simpa using this), List.filter_nil, List.map_nil, List.append_nil]
theorem mem_itemsTo {l : Lev} {cs : List ByteArray} {k : Nat} {u : ByteArray} {x : Int} : x ∈ itemsTo l cs k u ↔ ∃ i : Nat, i < k ∧ grpOf l (cs.getD i ⟨#[]⟩) = u ∧ x = i := by
  unfold itemsTo
  simp only [List.mem_map, List.mem_filter, List.mem_range, decide_eq_true_eq]
  constructor
  · rintro ⟨i, ⟨h1, h2⟩, rfl⟩; exact ⟨i, h1, h2, rfl⟩
  · rintro ⟨i, h1, h2, rfl⟩; exact ⟨i, ⟨h1, h2⟩, rfl⟩
theorem itemsTo_len (l : Lev) (cs : List ByteArray) (k : Nat) (u : ByteArray) : (itemsTo l cs k u).length ≤ k := by
  unfold itemsTo
  rw [List.length_map]
  have := List.length_filter_le (fun i => decide (grpOf l (cs.getD i ⟨#[]⟩) = u)) (List.range k)
  rw [List.length_range] at this
  exact this
theorem names_keys (l : Lev) (cs : List ByteArray) : KeysAre (itemsTo l cs cs.length) (namesOf l cs) := by
  refine ⟨strict_sortB _, fun s => ?_⟩
  unfold namesOf
  rw [mem_sortB, List.mem_map]
  constructor
  · rintro ⟨c, hc, rfl⟩ he
    obtain ⟨i, hi, rfl⟩ := List.mem_iff_getElem.1 hc
    have : (i : Int) ∈ itemsTo l cs cs.length (grpOf l cs[i]) := mem_itemsTo.2 ⟨i, hi, by rw [List.getD_eq_getElem?_getD, List.getElem?_eq_getElem hi]; rfl, rfl⟩
    rw [he] at this
    cases this
  · intro h
    cases he : itemsTo l cs cs.length s with
    | nil => exact absurd he h
    | cons x r =>
      have : x ∈ itemsTo l cs cs.length s := by rw [he]; exact List.mem_cons_self
      obtain ⟨i, hi, h2, _⟩ := mem_itemsTo.1 this
      exact ⟨cs[i], List.getElem_mem hi, by rw [← h2, List.getD_eq_getElem?_getD, List.getElem?_eq_getElem hi]; rfl⟩
theorem keys_names {l : Lev} {cs : List ByteArray} {names : List ByteArray} (h : KeysAre (itemsTo l cs cs.length) names) : names = namesOf l cs :=
  strict_eq h.1 (names_keys l cs).1 (fun s => (h.2 s).trans ((names_keys l cs).2 s).symm)
def mkG (i : Nat) (l : Lev) (cs : List ByteArray) (n : ByteArray) : Grp := ⟨i, n, -1, itemsTo l cs cs.length n⟩
/-- The place of a text among texts. -/
def idx (u : ByteArray) (l : List ByteArray) : Nat := l.findIdx (fun x => decide (x = u))
def upTo (l : Lev) (cs : List ByteArray) (start : Nat) (g : Grp) : Grp := { g with up := ((start + idx (grpOf l (cs.getD (g.items.headD 0).toNat ⟨#[]⟩)) (namesOf l cs) : Nat) : Int) }
/-- The groups behind k levels, and where those of the last one begin. -/
def gStep (cs : List ByteArray) (st : List Grp × Nat × Nat) (l : Lev) : List Grp × Nat × Nat :=
  (st.1.take st.2.1 ++ (st.1.drop st.2.1).map (upTo l cs st.1.length) ++ (namesOf l cs).map (mkG st.2.2 l cs), st.1.length, st.2.2 + 1)
def gTo (ls : List Lev) (cs : List ByteArray) (k : Nat) : List Grp × Nat × Nat := (ls.take k).foldl (gStep cs) ([], 0, 0)
theorem gTo_succ (ls : List Lev) (cs : List ByteArray) (k : Nat) (h : k < ls.length) : gTo ls cs (k + 1) = gStep cs (gTo ls cs k) ls[k] := by
  unfold gTo; rw [List.take_succ_eq_append_getElem h, List.foldl_append]; rfl
theorem gTo_idx (ls : List Lev) (cs : List ByteArray) (k : Nat) (h : k ≤ ls.length) : (gTo ls cs k).2.2 = k := by
  induction k with
  | zero => rfl
  | succ k ih => rw [gTo_succ ls cs k h]; unfold gStep; dsimp only; rw [ih (by omega)]
theorem idx_take {u : ByteArray} {l : List ByteArray} {j : Nat} (h : u ∈ l.take j) : idx u (l.take j) = idx u l := by
  unfold idx
  induction l generalizing j with
  | nil => simp
  | cons x r ih =>
    cases j with
    | zero => simp at h
    | succ j =>
      rw [List.take_succ_cons, List.findIdx_cons, List.findIdx_cons]
      by_cases e : x = u
      · simp [e]
      · simp only [e, decide_false, cond_false]
        rw [ih]
        rw [List.take_succ_cons] at h
        rcases List.mem_cons.1 h with h | h
        · exact absurd h.symm e
        · exact h
theorem idx_getElem {l : List ByteArray} (hn : StrictB l) {j : Nat} (h : j < l.length) : idx l[j] l = j := by
  unfold idx
  rw [List.findIdx_eq h]
  refine ⟨by simp, fun i hi => ?_⟩
  have := List.pairwise_iff_getElem.1 hn i j (by omega) h hi
  simpa using ltB_ne this
theorem idx_lt {u : ByteArray} {l : List ByteArray} (h : u ∈ l) : idx u l < l.length := List.findIdx_lt_length_of_exists ⟨u, h, by simp⟩
theorem idx_get {u : ByteArray} {l : List ByteArray} (h : u ∈ l) : l[idx u l]? = some u := by
  have hl := idx_lt h
  rw [List.getElem?_eq_getElem hl]
  have := List.findIdx_getElem (xs := l) (p := fun x => decide (x = u)) (w := hl)
  exact congrArg some (of_decide_eq_true this)
/-- The cells of a group. -/
def gCell (p : Grp × Value) : List Value := [.int .i64 p.1.lvl, .string p.1.name, .int .i64 p.1.up, p.2]
def OwnsG (w : World) (base : Nat) (v : Value) (gs : List Grp) : Prop :=
  ∃ L : List (Grp × Value), L.map Prod.fst = gs ∧ (∀ p ∈ L, RowI w p.2 p.1.items) ∧ w.ownsRow base 36 4 v L.length (L.flatMap gCell)
theorem OwnsG.nil (w : World) (base : Nat) : OwnsG w base (.slice none 0 0) [] := ⟨[], rfl, by simp, World.ownsRow_nil _ _ _ _⟩
theorem gCells_len (L : List (Grp × Value)) : (L.flatMap gCell).length = L.length * 4 := by
  induction L with
  | nil => rfl
  | cons p r ih => rw [List.flatMap_cons, List.length_append, ih, List.length_cons]; simp [gCell]; omega
theorem gCells_get (L : List (Grp × Value)) (k j : Nat) (h : k < L.length) (hj : j < 4) : (L.flatMap gCell)[k * 4 + j]? = (gCell L[k])[j]? := by
  induction L generalizing k with
  | nil => simp at h
  | cons p r ih =>
    rw [List.flatMap_cons]
    have hl : (gCell p).length = 4 := rfl
    cases k with
    | zero => rw [Nat.zero_mul, Nat.zero_add, List.getElem?_append_left (by omega)]; rfl
    | succ k =>
      rw [List.getElem?_append_right (by rw [hl]; omega), hl, show (k + 1) * 4 + j - 4 = k * 4 + j by omega]
      exact ih k (by simpa using h)
theorem gCells_set (L : List (Grp × Value)) (k : Nat) (h : k < L.length) (x : Int) : (L.flatMap gCell).set (k * 4 + 2) (.int .i64 x) = (L.set k ({ L[k].1 with up := x }, L[k].2)).flatMap gCell := by
  induction L generalizing k with
  | nil => simp at h
  | cons p r ih =>
    cases k with
    | zero => rfl
    | succ k =>
      have hl : (gCell p).length = 4 := rfl
      rw [List.flatMap_cons, List.set_append_right _ _ (by rw [hl]; omega), hl, show (k + 1) * 4 + 2 - 4 = k * 4 + 2 by omega, ih k (by simpa using h)]
      rfl
theorem OwnsG.len {w : World} {base : Nat} {v : Value} {gs : List Grp} (h : OwnsG w base v gs) : ∃ a cap, v = .slice a gs.length cap := by
  obtain ⟨L, rfl, _, ho⟩ := h
  rw [List.length_map]
  rcases Joins.ownsRow_forms ho with ⟨rfl, hp⟩ | ⟨g, cap, rfl⟩
  · exact ⟨none, 0, by rw [hp]⟩
  · exact ⟨_, cap, rfl⟩
theorem OwnsG.below {w w' : World} {base : Nat} {v : Value} {gs : List Grp} (h : OwnsG w base v gs) (hb : Below w.heap.size w w') : OwnsG w' base v gs := by
  obtain ⟨L, h1, h2, ho⟩ := h
  exact ⟨L, h1, fun p hp => (h2 p hp).below hb, ho.kept (grown_none hb) (Classical.em _)⟩
/-- Over a change of a block that is a map. -/
theorem OwnsG.grown {w w' : World} {base C : Nat} {v : Value} {gs : List Grp} (h : OwnsG w base v gs) (hg : w.grownBy w' (some C)) (hC : ∀ cur T fr, w.heap[C]? ≠ some (.cells cur T fr)) : OwnsG w' base v gs := by
  obtain ⟨L, h1, h2, ho⟩ := h
  refine ⟨L, h1, fun p hp => (h2 p hp).grown hg (fun g e cur fr => by cases e; exact hC cur _ fr), ho.kept hg (.inr (fun e => ?_))⟩
  obtain ⟨_, hv | ⟨g, cap, cur, rfl, _, hh, _⟩⟩ := ho
  · rw [hv.1] at e; cases e
  · cases e; exact hC _ _ _ hh
theorem owns_map_block {α : Type} {E : TypeId} {enc : α → Lit} {w : World} {B n : Nat} {f : ByteArray → Option α} (h : OwnsF E enc w B n f) : ∀ cur T fr, w.heap[B]? ≠ some (.cells cur T fr) := by
  obtain ⟨D, ⟨es, clock, hb, _⟩, _⟩ := h
  intro cur T fr e
  rw [hb] at e; cases e
end Go.Proofs.Ytdahgfopighhlaa
