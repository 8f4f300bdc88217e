/-
  Levels of the call's own; contract of the closure of Made.
-/
import Derived.Test.YtdahgfopighhlaaSK
import Derived.Test.YtdahgfopighhlaaSL
namespace Go.Proofs.Ytdahgfopighhlaa
open Go.RowKit
set_option linter.unusedVariables false
set_option maxRecDepth 100000
theorem Try.infoL : (Try.prog.info? 45).map (fun i => (i.zero, i.size, i.bytes)) = some (some (.agg #[.string ⟨#[]⟩, .int .i64 0, .slice none 0 0, .int .i64 0, .int .i64 0]), 5, 64) := by kernel_rfl
theorem Try.infoB : (Try.prog.info? 47).map (fun i => (i.zero, i.size, i.bytes)) = some (some (.agg #[.string ⟨#[]⟩, .string ⟨#[]⟩]), 2, 32) := by kernel_rfl
theorem kept_typed {w w' : World} {base : Nat} {e : TypeId} {size : Nat} {v : Value} {n : Nat} {xs : List Value} {row : Option Nat} (h : w.ownsRow base e size v n xs) (hg : w.grownBy w' row) (hT : ∀ g, row = some g → ∀ cur fr, w.heap[g]? ≠ some (.cells cur e fr)) : w'.ownsRow base e size v n xs := by
  refine h.kept hg ?_
  obtain ⟨_, hv | ⟨g, cap, cur, rfl, _, hh, _⟩⟩ := h
  · rw [hv.1]; exact .inl rfl
  · exact .inr (fun e' => hT g e'.symm _ _ hh)
def labCell (x : Lab) : List Value := [.string x.pre, .string x.grp]
abbrev OwnsLab (w : World) (base : Nat) (v : Value) (labs : List Lab) : Prop := w.ownsRow base 47 2 v labs.length (labs.flatMap labCell)
theorem labCells_get (L : List Lab) (k j : Nat) (h : k < L.length) (hj : j < 2) : (L.flatMap labCell)[k * 2 + j]? = (labCell L[k])[j]? := by
  induction L generalizing k with
  | nil => simp at h
  | cons p r ih =>
    rw [List.flatMap_cons]
    have hl : (labCell p).length = 2 := rfl
    cases k with
    | zero => rw [Nat.zero_mul, Nat.zero_add, List.getElem?_append_left (by omega)]; rfl
    | succ k =>
      rw [List.getElem?_append_right (by rw [hl]; omega), hl, show (k + 1) * 2 + j - 2 = k * 2 + j by omega]
      exact ih k (by simpa using h)
theorem RdLabs.of_owns {w : World} {base : Nat} {v : Value} {labs : List Lab} (ho : OwnsLab w base v labs) : RdLabs w v labs := by
  rcases Joins.ownsRow_forms ho with ⟨rfl, hp⟩ | ⟨g, cap, rfl⟩
  · obtain rfl : labs = [] := List.length_eq_zero_iff.1 hp
    exact rd_nil w
  · refine ⟨_, cap, rfl, fun _ => ⟨g, 0, rfl, (ho.lt g rfl).2, fun i h => ?_⟩⟩
    rw [Nat.zero_add]
    constructor
    · rw [ho.cellAt _ (by omega), show i * 2 = i * 2 + 0 from rfl, labCells_get labs i 0 h (by omega)]; rfl
    · rw [ho.cellAt _ (by omega), labCells_get labs i 1 h (by omega)]; rfl
theorem OwnsLab.nil (w : World) (base : Nat) : OwnsLab w base (.slice none 0 0) [] := World.ownsRow_nil _ _ _ _
theorem OwnsLab.form {w : World} {base : Nat} {v : Value} {l : List Lab} (h : OwnsLab w base v l) : ∃ a cap, v = .slice a l.length cap := by
  rcases Joins.ownsRow_forms h with ⟨rfl, hp⟩ | ⟨g, cap, rfl⟩
  · exact ⟨none, 0, by rw [hp]⟩
  · exact ⟨_, cap, rfl⟩
def lCell (p : Lev × Value) : List Value := [.string p.1.name, .int .i64 p.1.pre, p.2, .int .i64 p.1.min, .int .i64 p.1.cents]
def OwnsLv (w : World) (base : Nat) (v : Value) (ls : List Lev) : Prop :=
  ∃ L : List (Lev × Value), L.map Prod.fst = ls ∧ (∀ p ∈ L, OwnsLab w base p.2 p.1.labs) ∧ w.ownsRow base 45 5 v L.length (L.flatMap lCell)
theorem lCells_get (L : List (Lev × Value)) (k j : Nat) (h : k < L.length) (hj : j < 5) : (L.flatMap lCell)[k * 5 + j]? = (lCell L[k])[j]? := by
  induction L generalizing k with
  | nil => simp at h
  | cons p r ih =>
    rw [List.flatMap_cons]
    have hl : (lCell p).length = 5 := rfl
    cases k with
    | zero => rw [Nat.zero_mul, Nat.zero_add, List.getElem?_append_left (by omega)]; rfl
    | succ k =>
      rw [List.getElem?_append_right (by rw [hl]; omega), hl, show (k + 1) * 5 + j - 5 = k * 5 + j by omega]
      exact ih k (by simpa using h)
theorem OwnsLv.nil (w : World) (base : Nat) : OwnsLv w base (.slice none 0 0) [] := ⟨[], rfl, by simp, World.ownsRow_nil _ _ _ _⟩
theorem OwnsLv.form {w : World} {base : Nat} {v : Value} {ls : List Lev} (h : OwnsLv w base v ls) : ∃ a cap, v = .slice a ls.length cap := by
  obtain ⟨L, rfl, _, ho⟩ := h
  rw [List.length_map]
  rcases Joins.ownsRow_forms ho with ⟨rfl, hp⟩ | ⟨g, cap, rfl⟩
  · exact ⟨none, 0, by rw [hp]⟩
  · exact ⟨_, cap, rfl⟩
theorem OwnsLv.grown {w w' : World} {base : Nat} {v : Value} {ls : List Lev} {row : Option Nat} (h : OwnsLv w base v ls) (hg : w.grownBy w' row) (h1 : ∀ g, row = some g → ∀ cur fr, w.heap[g]? ≠ some (.cells cur 47 fr)) (h2 : ∀ g, row = some g → ∀ cur fr, w.heap[g]? ≠ some (.cells cur 45 fr)) : OwnsLv w' base v ls := by
  obtain ⟨L, hL, hLr, hLo⟩ := h
  exact ⟨L, hL, fun p hp => kept_typed (hLr p hp) hg h1, kept_typed hLo hg h2⟩
theorem OwnsLv.below {w w' : World} {base : Nat} {v : Value} {ls : List Lev} (h : OwnsLv w base v ls) (hb : Below w.heap.size w w') : OwnsLv w' base v ls :=
  h.grown (grown_none hb) (fun g e => by cases e) (fun g e => by cases e)
theorem OwnsLv.reads {w : World} {base : Nat} {v : Value} {ls : List Lev} (h : OwnsLv w base v ls) : RdLevs w v ls := by
  obtain ⟨L, rfl, hLr, ho⟩ := h
  rcases Joins.ownsRow_forms ho with ⟨rfl, hp⟩ | ⟨g, cap, rfl⟩
  · obtain rfl : L = [] := List.length_eq_zero_iff.1 hp
    exact ⟨none, 0, rfl, fun h => absurd h (by simp)⟩
  · refine ⟨_, cap, by rw [List.length_map], fun _ => ⟨g, 0, rfl, (ho.lt g rfl).2, fun i h => ?_⟩⟩
    have h' : i < L.length := by simpa using h
    refine ⟨L[i].2, ?_, ?_⟩
    · have := RdLabs.of_owns (hLr _ (List.getElem_mem h'))
      simpa using this
    · rw [Nat.zero_add]
      refine ⟨?_, ?_, ?_, ?_, ?_⟩
      · rw [ho.cellAt _ (by omega), show i * 5 = i * 5 + 0 from rfl, lCells_get L i 0 h' (by omega)]; simp [lCell]
      · rw [ho.cellAt _ (by omega), lCells_get L i 1 h' (by omega)]; simp [lCell]
      · rw [ho.cellAt _ (by omega), lCells_get L i 2 h' (by omega)]; simp [lCell]
      · rw [ho.cellAt _ (by omega), lCells_get L i 3 h' (by omega)]; simp [lCell]
      · rw [ho.cellAt _ (by omega), lCells_get L i 4 h' (by omega)]; simp [lCell]
theorem set_grown (w : World) (a : Addr) (u : Value) : w.grownBy (w.setCell a u) (some a.block) := by
  refine ⟨rfl, rfl, rfl, by simp, fun k hk hne => Below.heap_setCell _ _ _ _ (fun e => hne (by rw [e]))⟩
/-- What stands while Made runs: boxes of the least numbers and the cents, and the levels so far. -/
def MR (w : World) (vl vc : Value) (out : List Lev) (wx : World) : Prop :=
  Below w.heap.size w wx ∧ wx.heap[w.heap.size]? = some (.cells #[vl] 23 (0, 0)) ∧ wx.heap[w.heap.size + 1]? = some (.cells #[vc] 23 (0, 0)) ∧
  ∃ v, wx.heap[w.heap.size + 2]? = some (.cells #[v] 25 (0, 0)) ∧ OwnsLv wx (w.heap.size + 3) v out
theorem MR.below {w : World} {vl vc : Value} {out : List Lev} {wx w' : World} (h : MR w vl vc out wx) (hb : Below wx.heap.size wx w') : MR w vl vc out w' := by
  obtain ⟨h1, h2, h3, v, h4, h5⟩ := h
  have k : ∀ {b : Nat} {o : Obj}, wx.heap[b]? = some o → w'.heap[b]? = some o := fun hh => (hb.block _ (Array.getElem?_eq_some_iff.1 hh).1).trans hh
  exact ⟨below_c h1 h1.size hb, k h2, k h3, v, k h4, h5.below hb⟩
def addL (least cents : List UInt8) (out : List Lev) (l : Lev) : List Lev := out ++ [{ l with min := 1 + ((least.getD out.length 0).toNat : Int), cents := ((cents.getD out.length 0).toNat : Int) }]
theorem blk_ne {w : World} {a b : Nat} {o o' : Obj} (h : w.heap[a]? = some o) (h' : w.heap[b]? = some o') (hne : o ≠ o') : a ≠ b := by rintro rfl; rw [h] at h'; exact hne (Option.some.inj h')
/-- The levels so far, and one more, behind the append and the store. -/
theorem MR_add {w w1 w2 : World} {vl vc v v' sv : Value} {out : List Lev} {l : Lev} (h1 : Below w.heap.size w w1) (h2 : w1.heap[w.heap.size]? = some (.cells #[vl] 23 (0, 0))) (h3 : w1.heap[w.heap.size + 1]? = some (.cells #[vc] 23 (0, 0))) (h4 : w1.heap[w.heap.size + 2]? = some (.cells #[v] 25 (0, 0)))
    {L : List (Lev × Value)} (hL : L.map Prod.fst = out) (hLr : ∀ p ∈ L, OwnsLab w1 (w.heap.size + 3) p.2 p.1.labs) (hLo : w1.ownsRow (w.heap.size + 3) 45 5 v L.length (L.flatMap lCell)) (hsv : OwnsLab w1 (w.heap.size + 3) sv l.labs)
    (hg : w1.grownBy w2 v.ownBlock) (ho : w2.ownsRow (w.heap.size + 3) 45 5 v' (L.length + 1) (L.flatMap lCell ++ lCell (l, sv))) :
    MR w vl vc (out ++ [l]) (w2.setCell ⟨w.heap.size + 2, 0, none⟩ v') ∧ w2.cell? ⟨w.heap.size + 2, 0, none⟩ = some v ∧ w2.frozen? ⟨w.heap.size + 2, 0, none⟩ = false := by
  have nB := own_not hLo (T := 23) (by decide)
  have nV := own_not hLo (T := 25) (by decide)
  have nA := own_not hLo (T := 47) (by decide)
  have b2 := block_grown hg h2 (fun g e => nB g e _ _)
  have b3 := block_grown hg h3 (fun g e => nB g e _ _)
  have b4 := block_grown hg h4 (fun g e => nV g e _ _)
  have hlt := fun r e => (hLo.lt r e).1
  have B2 : Below w.heap.size w w2 := h1.grown hg h1.size (fun r e => by have := hlt r e; omega)
  have sg := set_grown w2 ⟨w.heap.size + 2, 0, none⟩ v'
  have no : ∀ T, T ≠ 25 → ∀ g, some (w.heap.size + 2) = some g → ∀ cur fr, w2.heap[g]? ≠ some (.cells cur T fr) := by
    intro T hT g e cur fr e'
    injection e with e
    subst e
    rw [b4] at e'
    injection e' with e'
    injection e' with _ e' _
    exact hT e'.symm
  refine ⟨⟨below_row B2 sg B2.size (by show _ ≤ w.heap.size + 2; omega), (Below.heap_setCell _ _ _ _ (by show w.heap.size ≠ w.heap.size + 2; omega)).trans b2, (Below.heap_setCell _ _ _ _ (by show w.heap.size + 1 ≠ w.heap.size + 2; omega)).trans b3, v', one_setCell b4, L ++ [(l, sv)], ?_, ?_, ?_⟩, cell_of_one b4, free_of_one b4⟩
  · rw [List.map_append, hL]; rfl
  · intro p hp
    have k : ∀ {u : Value} {labs : List Lab}, OwnsLab w1 (w.heap.size + 3) u labs → OwnsLab (w2.setCell ⟨w.heap.size + 2, 0, none⟩ v') (w.heap.size + 3) u labs := fun hh => kept_typed (kept_typed hh hg (fun g e => nA g e)) sg (no _ (by decide))
    rcases List.mem_append.1 hp with hp | hp
    · exact k (hLr p hp)
    · rw [List.mem_singleton.1 hp]; exact k hsv
  · rw [List.flatMap_append, List.length_append]
    have := kept_typed ho sg (no _ (by decide))
    simpa using this
end Go.Proofs.Ytdahgfopighhlaa
