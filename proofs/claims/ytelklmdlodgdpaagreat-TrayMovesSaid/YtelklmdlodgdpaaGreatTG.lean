/-
  Rows of elements that each have a row of numbers; a load as it lies; append(a, b...).
-/
import Derived.Test.YtelklmdlodgdpaaGreatTF
import Derived.Deep.Upon
namespace Go.Proofs.YtelklmdlodgdpaaGreat
open Go.RowKit Go.Sort
set_option linter.unusedVariables false
set_option maxRecDepth 100000
theorem grown_any {A B : World} (h : Below A.heap.size A B) (row : Option Nat) : A.grownBy B row := ⟨h.os, h.tape, h.output, h.size, fun k hk _ => h.block k hk⟩
/-- append(a, b...) of two rows. -/
theorem wpList_append_both {P : Program} (w : World) {ops : Array Oper} {rest : List Oper} {o : Oper} {a : Act} {Q : Exit → Act → World → Prop} (hgd : o.guard = none) (s x : Operand) (t : TypeId)
    (ho : o.op = .call { callee := .builtin .append, args := #[s, x], argTypes := #[t, t] })
    (base : Nat) (e : TypeId) (i : TypeInfo) (z : Value) (size bytes : Nat) (ht : P.underlying t = some (.slice e)) (hi : P.info? e = some i) (hz : i.zero = some z)
    (hsize : i.size = size) (hby : i.bytes = bytes) (hzs : z.cells.size = size) (hsz : 0 < size)
    (v : Value) (n : Nat) (xs : List Value) (hs : a.eval s = v) (hown : w.ownsRow base e size v n xs)
    (base2 : Nat) (v2 : Value) (m : Nat) (news : List Value) (hx : a.eval x = v2) (hown2 : w.ownsRow base2 e size v2 m news) (h1 : ∀ u ∈ news, u.oneCell' = true)
    (h63 : n + m ≤ maxLen) (hbytes : (n + m) * bytes ≤ 140737488355328) (hbase : base ≤ w.heap.size)
    (h : ∀ v' w', w'.ownsRow base e size v' (n + m) (xs ++ news) → w.grownBy w' v.ownBlock → wpList P ops Q rest (a.put o.dst v') w') : wpList P ops Q (o :: rest) a w := by
  rcases Joins.ownsRow_forms hown2 with ⟨rfl, hm⟩ | ⟨g, cap, rfl⟩
  · subst hm
    have hne : news = [] := List.length_eq_zero_iff.1 (by have := hown2.1; omega)
    subst hne
    have hform : ∃ b n' c, v = .slice b n' c ∧ n' ≤ c := by
      obtain ⟨_, ⟨rfl, _⟩ | ⟨g, cap, cur, rfl, _, _, hc, _⟩⟩ := hown
      · exact ⟨none, 0, 0, rfl, Nat.le_refl _⟩
      · exact ⟨_, n, cap, rfl, hc⟩
    obtain ⟨b, n', c, rfl, hle⟩ := hform
    refine wpList_plain hgd fun K hK' => ?_
    have hrun := run_append_nothing (P := P) w t t o.type e i ht hi b n' c hle (.slice none 0 0) (Src.ofNil w ht 0)
    unfold Oper.wp
    simp [execOp, ho, resolve, invoke, builtin, hs, hx, hrun, Result.andThen]
    refine hK' _ _ (h _ _ ?_ (grown_any (Below.refl _ _) _))
    simpa using hown
  · exact wpList_append_own w hgd s x t ho base e i z size bytes ht hi hz hsize hby hzs hsz v n xs hs hown ⟨g, 0, none⟩ m cap news hx hown2.1 (fun j u hj => hown2.cells (g := g) rfl j u hj) h1 h63 hbytes hbase (fun v' w' h2 h3 _ => h v' w' h2 h3)
/-- A row of elements of the call's own, each with a row of numbers of the call's own. -/
def OwnsX {α : Type} (T : TypeId) (n : Nat) (cf : α × Value → List Value) (ids : α → List Int) (w : World) (base : Nat) (v : Value) (xs : List α) : Prop :=
  ∃ L : List (α × Value), L.map Prod.fst = xs ∧ (∀ p ∈ L, RowJ w base p.2 (ids p.1)) ∧ w.ownsRow base T n v L.length (L.flatMap cf)
section
variable {α : Type} {T : TypeId} {n : Nat} {cf : α × Value → List Value} {ids : α → List Int} {w w' : World} {base : Nat} {v : Value} {xs : List α}
theorem OwnsX.nil (w : World) (base : Nat) : OwnsX T n cf ids w base (.slice none 0 0) [] := ⟨[], rfl, by simp, World.ownsRow_nil _ _ _ _⟩
theorem OwnsX.below (h : OwnsX T n cf ids w base v xs) (hb : Below w.heap.size w w') : OwnsX T n cf ids w' base v xs := by
  obtain ⟨L, hL, h1, h2⟩ := h
  exact ⟨L, hL, fun p hp => (h1 p hp).below hb, row_belowT h2 hb⟩
theorem OwnsX.mono {base' : Nat} (h : OwnsX T n cf ids w base v xs) (hb : base' ≤ base) : OwnsX T n cf ids w base' v xs := by
  obtain ⟨L, hL, h1, h2⟩ := h
  exact ⟨L, hL, fun p hp => (h1 p hp).mono hb, own_mono h2 hb⟩
theorem OwnsX.form (h : OwnsX T n cf ids w base v xs) : ∃ a cap, v = .slice a xs.length cap := by
  obtain ⟨L, rfl, _, ho⟩ := h
  rw [List.length_map]
  exact own_form ho
/-- It stays while something else grows. -/
theorem OwnsX.beside {row : Option Nat} (h : OwnsX T n cf ids w base v xs) (hg : w.grownBy w' row) (h1 : ∀ g, row = some g → ∀ cur fr, w.heap[g]? ≠ some (.cells cur T fr)) (h2 : ∀ g, row = some g → ∀ cur fr, w.heap[g]? ≠ some (.cells cur 3 fr)) : OwnsX T n cf ids w' base v xs := by
  obtain ⟨L, hL, h3, h4⟩ := h
  exact ⟨L, hL, fun p hp => (h3 p hp).kept hg (fun g e => .inr (h2 g e)), kept_typed h4 hg h1⟩
theorem OwnsX.not (h : OwnsX T n cf ids w base v xs) {T' : TypeId} (hT : T' ≠ T) : ∀ g, v.ownBlock = some g → ∀ cur fr, w.heap[g]? ≠ some (.cells cur T' fr) := by
  obtain ⟨L, hL, h3, h4⟩ := h
  exact own_not h4 hT
theorem OwnsX.app {L L2 : List (α × Value)} {w2 : World} {v' : Value} (hT : 3 ≠ T) (hr : ∀ p ∈ L, RowJ w base p.2 (ids p.1)) (hr2 : ∀ p ∈ L2, RowJ w base p.2 (ids p.1)) (hO : w.ownsRow base T n v L.length (L.flatMap cf)) (hg : w.grownBy w2 v.ownBlock)
    (ho : w2.ownsRow base T n v' (L.length + L2.length) (L.flatMap cf ++ L2.flatMap cf)) : OwnsX T n cf ids w2 base v' (L.map Prod.fst ++ L2.map Prod.fst) := by
  have nA := own_not hO hT
  refine ⟨L ++ L2, by rw [List.map_append], fun p hp => ?_, ?_⟩
  · rcases List.mem_append.1 hp with hp | hp
    · exact (hr p hp).kept hg (fun g e => .inr (nA g e))
    · exact (hr2 p hp).kept hg (fun g e => .inr (nA g e))
  · rw [List.flatMap_append, List.length_append]
    exact ho
end
theorem OwnsB.x {w : World} {base : Nat} {v : Value} {bs : List Bun} (h : OwnsB w base v bs) : OwnsX 47 4 bunCell (fun b => b.ids) w base v bs := h
def traCell (p : Tra × Value) : List Value := [.int .i64 p.1.lvl, .string p.1.grp, p.2]
def conCell (p : Con × Value) : List Value := [.int .i64 p.1.lvl, p.2]
/-- A load as it lies. -/
structure LodW (w : World) (T base : Nat) (bs : List Bun) (ts : List Tra) (cs : List Con) (vb vt vc : Value) : Prop where
  cell : w.heap[T]? = some (.cells #[vb, vt, vc] 39 (0, 0))
  b : OwnsX 47 4 bunCell (fun b => b.ids) w base vb bs
  t : OwnsX 49 3 traCell (fun t => t.bs) w base vt ts
  c : OwnsX 51 2 conCell (fun c => c.ts) w base vc cs
section
variable {w w' w2 : World} {T base : Nat} {bs bs' : List Bun} {ts ts' : List Tra} {cs cs' : List Con} {vb vt vc vb' vt' vc' : Value}
theorem LodW.lt (h : LodW w T base bs ts cs vb vt vc) : T < w.heap.size := (Array.getElem?_eq_some_iff.1 h.cell).1
theorem LodW.below (h : LodW w T base bs ts cs vb vt vc) (hb : Below w.heap.size w w') : LodW w' T base bs ts cs vb vt vc :=
  ⟨(hb.block T h.lt).trans h.cell, h.b.below hb, h.t.below hb, h.c.below hb⟩
theorem cells3 {w : World} {g : Nat} {a b c : Value} {t : TypeId} {fr : Nat × Nat} (h : w.heap[g]? = some (.cells #[a, b, c] t fr)) : w.cell? ⟨g, 0, none⟩ = some a ∧ w.cell? ⟨g, 1, none⟩ = some b ∧ w.cell? ⟨g, 2, none⟩ = some c :=
  ⟨cell_of_row _ _ 0 _ _ _ h, cell_of_row _ _ 1 _ _ _ h, cell_of_row _ _ 2 _ _ _ h⟩
theorem set3 {w : World} {g : Nat} {a b c u : Value} {t : TypeId} {fr : Nat × Nat} (h : w.heap[g]? = some (.cells #[a, b, c] t fr)) :
    (w.setCell ⟨g, 0, none⟩ u).heap[g]? = some (.cells #[u, b, c] t fr) ∧ (w.setCell ⟨g, 1, none⟩ u).heap[g]? = some (.cells #[a, u, c] t fr) ∧ (w.setCell ⟨g, 2, none⟩ u).heap[g]? = some (.cells #[a, b, u] t fr) := by
  refine ⟨?_, ?_, ?_⟩ <;> simp [World.setCell, Array.getElem?_modify, h]
theorem lod_set {w : World} {g : Nat} {cs : Array Value} (h : w.heap[g]? = some (.cells cs 39 (0, 0))) {T' : TypeId} (hT : T' ≠ 39) : ∀ k, some g = some k → ∀ cur fr, w.heap[k]? ≠ some (.cells cur T' fr) := fun k e cur fr hk => by
  obtain rfl := Option.some.inj e
  rw [h] at hk
  injection hk with hk
  injection hk with _ hk _
  exact hT hk.symm
theorem LodW.setB (h : LodW w T base bs ts cs vb vt vc) (hg : w.grownBy w2 vb.ownBlock) (hb : OwnsX 47 4 bunCell (fun b => b.ids) w2 base vb' bs') : LodW (w2.setCell ⟨T, 0, none⟩ vb') T base bs' ts cs vb' vt vc ∧ w2.frozen? ⟨T, 0, none⟩ = false ∧ w2.cell? ⟨T, 0, none⟩ = some vb := by
  have h2 : w2.heap[T]? = some (.cells #[vb, vt, vc] 39 (0, 0)) := (hg.block T h.lt (fun e => h.b.not (T' := 39) (by decide) T e.symm _ _ h.cell)).trans h.cell
  have hs := set_grown w2 ⟨T, 0, none⟩ vb'
  exact ⟨⟨(set3 h2).1, hb.beside hs (lod_set h2 (by decide)) (lod_set h2 (by decide)), (h.t.beside hg (h.b.not (by decide)) (h.b.not (by decide))).beside hs (lod_set h2 (by decide)) (lod_set h2 (by decide)), (h.c.beside hg (h.b.not (by decide)) (h.b.not (by decide))).beside hs (lod_set h2 (by decide)) (lod_set h2 (by decide))⟩, row_free h2, (cells3 h2).1⟩
theorem LodW.setT (h : LodW w T base bs ts cs vb vt vc) (hg : w.grownBy w2 vt.ownBlock) (hb : OwnsX 49 3 traCell (fun t => t.bs) w2 base vt' ts') : LodW (w2.setCell ⟨T, 1, none⟩ vt') T base bs ts' cs vb vt' vc ∧ w2.frozen? ⟨T, 1, none⟩ = false ∧ w2.cell? ⟨T, 1, none⟩ = some vt := by
  have h2 : w2.heap[T]? = some (.cells #[vb, vt, vc] 39 (0, 0)) := (hg.block T h.lt (fun e => h.t.not (T' := 39) (by decide) T e.symm _ _ h.cell)).trans h.cell
  have hs := set_grown w2 ⟨T, 1, none⟩ vt'
  exact ⟨⟨(set3 h2).2.1, (h.b.beside hg (h.t.not (by decide)) (h.t.not (by decide))).beside hs (lod_set h2 (by decide)) (lod_set h2 (by decide)), hb.beside hs (lod_set h2 (by decide)) (lod_set h2 (by decide)), (h.c.beside hg (h.t.not (by decide)) (h.t.not (by decide))).beside hs (lod_set h2 (by decide)) (lod_set h2 (by decide))⟩, row_free h2, (cells3 h2).2.1⟩
theorem LodW.setC (h : LodW w T base bs ts cs vb vt vc) (hg : w.grownBy w2 vc.ownBlock) (hb : OwnsX 51 2 conCell (fun c => c.ts) w2 base vc' cs') : LodW (w2.setCell ⟨T, 2, none⟩ vc') T base bs ts cs' vb vt vc' ∧ w2.frozen? ⟨T, 2, none⟩ = false ∧ w2.cell? ⟨T, 2, none⟩ = some vc := by
  have h2 : w2.heap[T]? = some (.cells #[vb, vt, vc] 39 (0, 0)) := (hg.block T h.lt (fun e => h.c.not (T' := 39) (by decide) T e.symm _ _ h.cell)).trans h.cell
  have hs := set_grown w2 ⟨T, 2, none⟩ vc'
  exact ⟨⟨(set3 h2).2.2, (h.b.beside hg (h.c.not (by decide)) (h.c.not (by decide))).beside hs (lod_set h2 (by decide)) (lod_set h2 (by decide)), (h.t.beside hg (h.c.not (by decide)) (h.c.not (by decide))).beside hs (lod_set h2 (by decide)) (lod_set h2 (by decide)), hb.beside hs (lod_set h2 (by decide)) (lod_set h2 (by decide))⟩, row_free h2, (cells3 h2).2.2⟩
end
end Go.Proofs.YtelklmdlodgdpaaGreat
