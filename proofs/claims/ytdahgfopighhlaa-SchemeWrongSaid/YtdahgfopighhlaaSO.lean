/-
  Made in plain words; what stands in its loops.
-/
import Derived.Test.YtdahgfopighhlaaSN
namespace Go.Proofs.Ytdahgfopighhlaa
open Go.RowKit
set_option linter.unusedVariables false
def sel (cands : List ByteArray) (f : ByteArray → Lab) (b : Nat → Bool) (k : Nat) : List Lab := ((List.range k).filter b).map (fun i => f (cands.getD i ⟨#[]⟩))
theorem sel_succ (cands : List ByteArray) (f : ByteArray → Lab) (b : Nat → Bool) (k : Nat) (h : k < cands.length) : sel cands f b (k + 1) = if b k then sel cands f b k ++ [f cands[k]] else sel cands f b k := by
  unfold sel
  rw [List.range_succ, List.filter_append, List.map_append]
  cases hb : b k
  · rw [List.filter_cons_of_neg (by simpa using hb), List.filter_nil, List.map_nil, List.append_nil]; simp
  · rw [List.filter_cons_of_pos (by simpa using hb), List.filter_nil, if_pos rfl]
    have : cands.getD k ⟨#[]⟩ = cands[k] := by rw [List.getD_eq_getElem?_getD, List.getElem?_eq_getElem h]; rfl
    rw [List.map_cons, List.map_nil, this]
theorem sel_len (cands : List ByteArray) (f : ByteArray → Lab) (b : Nat → Bool) (k : Nat) : (sel cands f b k).length ≤ k := by
  unfold sel
  rw [List.length_map]
  have := List.length_filter_le b (List.range k)
  rw [List.length_range] at this
  exact this
def bt (n m : Int) : Bool := decide (0 < bits BinOp.and IntKind.u32 n m)
structure Bits where
  f5 : Bool
  f3 : Bool
  f1 : Bool
  b5 : Nat → Bool
  b3 : Nat → Bool
  b1 : Nat → Bool
def bitsOf (n : Int) : Bits := ⟨bt n 1, bt n 2, bt n 4, fun k => bt (n / 2 ^ (3 + k)) 1, fun k => bt (n / 2 ^ (8 + k)) 1, fun k => bt (n / 2 ^ (14 + k)) 1⟩
def pre5 : List ByteArray := [⟨#[49, 48, 48, 48, 48]⟩, ⟨#[49, 48, 48, 48, 49]⟩, ⟨#[49, 48, 48, 49, 48]⟩, ⟨#[49, 49, 48, 48, 48]⟩, ⟨#[50, 48, 48, 48, 48]⟩]
def pre3 : List ByteArray := [⟨#[49, 48, 48]⟩, ⟨#[49, 48, 49]⟩, ⟨#[49, 49, 48]⟩, ⟨#[50, 48, 48]⟩, ⟨#[50, 48, 49]⟩, ⟨#[51, 48, 48]⟩]
def pre1 : List ByteArray := [⟨#[49]⟩, ⟨#[50]⟩, ⟨#[51]⟩]
def lab5 (p : ByteArray) : Lab := ⟨p, ⟨#[72]⟩ ++ p.extract 0 3⟩
def lab3 (p : ByteArray) : Lab := ⟨p, ⟨#[71]⟩ ++ p.extract 0 1⟩
def lab1 (p : ByteArray) : Lab := ⟨p, ⟨#[90]⟩⟩
def lev5 (B : Bits) : Lev := ⟨⟨#[102, 105, 118, 101]⟩, 5, sel pre5 lab5 B.b5 5, 0, 0⟩
def lev3 (B : Bits) : Lev := ⟨⟨#[116, 104, 114, 101, 101]⟩, 3, sel pre3 lab3 B.b3 6, 0, 0⟩
def lev1 (B : Bits) : Lev := ⟨⟨#[111, 110, 101]⟩, 1, sel pre1 lab1 B.b1 3, 0, 0⟩
def mk1 (B : Bits) (least cents : List UInt8) : List Lev := if B.f5 then addL least cents [] (lev5 B) else []
def mk2 (B : Bits) (least cents : List UInt8) : List Lev := if B.f3 then addL least cents (mk1 B least cents) (lev3 B) else mk1 B least cents
def mk3 (B : Bits) (least cents : List UInt8) : List Lev := if B.f1 then addL least cents (mk2 B least cents) (lev1 B) else mk2 B least cents
def madeR (B : Bits) (least cents : List UInt8) : List Lev := mk3 B least cents ++ [⟨⟨#[97, 108, 108]⟩, 0, [], 0, ((cents.getD (mk3 B least cents).length 0).toNat : Int)⟩]
theorem mk_len (B : Bits) (least cents : List UInt8) : (mk1 B least cents).length ≤ 1 ∧ (mk2 B least cents).length ≤ 2 ∧ (mk3 B least cents).length ≤ 3 := by
  have h1 : (mk1 B least cents).length ≤ 1 := by unfold mk1 addL; split <;> simp
  have h2 : (mk2 B least cents).length ≤ 2 := by unfold mk2 addL; split <;> (try simp) <;> omega
  have h3 : (mk3 B least cents).length ≤ 3 := by unfold mk3 addL; split <;> (try simp) <;> omega
  exact ⟨h1, h2, h3⟩
/-- A loop that fills the labels of a level: wa is the world ahead of the level's box. -/
def SR (wa : World) (nm : ByteArray) (pre : Int) (strs : Array Value) (labs : List Lab) (wr : World) : Prop :=
  Below wa.heap.size wa wr ∧ (∃ sv, wr.heap[wa.heap.size]? = some (.cells #[.string nm, .int .i64 pre, sv, .int .i64 0, .int .i64 0] 45 (0, 0)) ∧ OwnsLab wr (wa.heap.size + 1) sv labs) ∧ wr.heap[wa.heap.size + 1]? = some (.cells strs 9 (0, 0))
theorem SR_start (wa : World) (nm : ByteArray) (pre : Int) (strs : Array Value) : SR wa nm pre strs [] ((wa.alloc (.cells #[.string nm, .int .i64 pre, .slice none 0 0, .int .i64 0, .int .i64 0] 45)).alloc (.cells strs 9)) := by
  have h := fun j o => @allocs_block wa [.cells #[.string nm, .int .i64 pre, .slice none 0 0, .int .i64 0, .int .i64 0] 45, .cells strs 9] j o
  exact ⟨((Below.refl _ wa).alloc (Nat.le_refl _) _).alloc (by simp) _, ⟨_, h 0 _ rfl, OwnsLab.nil _ _⟩, h 1 _ rfl⟩
/-- How a label comes in: the append's own equation, and what stands behind the store. -/
theorem SR_step {wa wr W : World} {nm : ByteArray} {pre : Int} {strs : Array Value} {labs : List Lab} (h : SR wa nm pre strs labs wr) (x : Lab) (hl : labs.length ≤ 100) {i0 : TypeInfo} (hbW : Below wr.heap.size wr W) (hszW : wr.heap.size < W.heap.size) (hcW : ∀ j u, (labCell x)[j]? = some u → W.cell? ((⟨wr.heap.size, 0, none⟩ : Addr).add j) = some u) (hi : Try.prog.info? 47 = some i0 ∧ i0.zero = some (.agg #[.string ⟨#[]⟩, .string ⟨#[]⟩]) ∧ i0.size = 2 ∧ i0.bytes = 32) :
    ∃ sa sc gv cv w1, wr.cell? ⟨wa.heap.size, 2, none⟩ = some (.slice sa labs.length sc) ∧ wa.heap.size < wr.heap.size ∧
      (Builtin.append_ #[43, 43] 43 #[.slice sa labs.length sc, .slice (some ⟨wr.heap.size, 0, none⟩) 1 1]).run Try.prog W = .ok (.slice (some ⟨gv, 0, none⟩) (labs.length + 1) cv) w1 ∧
      w1.cell? ⟨wa.heap.size, 2, none⟩ = some (.slice sa labs.length sc) ∧ w1.frozen? ⟨wa.heap.size, 2, none⟩ = false ∧
      SR wa nm pre strs (labs ++ [x]) (w1.setCell ⟨wa.heap.size, 2, none⟩ (.slice (some ⟨gv, 0, none⟩) (labs.length + 1) cv)) := by
  obtain ⟨h1, ⟨sv, h2, h3⟩, h4⟩ := h
  obtain ⟨sa, sc, rfl⟩ := OwnsLab.form h3
  have hlt := (Array.getElem?_eq_some_iff.1 h2).1
  have h3W : OwnsLab W (wa.heap.size + 1) (.slice sa labs.length sc) labs := h3.kept (grown_none hbW) (Classical.em _)
  obtain ⟨v', w1, hr, ho, hg, _⟩ := run_append_own (P := Try.prog) W (wa.heap.size + 1) 43 43 47 i0 (.agg #[.string ⟨#[]⟩, .string ⟨#[]⟩]) 2 32 Try.underlying43 hi.1 hi.2.1 hi.2.2.1 hi.2.2.2 rfl (by decide) (.slice sa labs.length sc) labs.length (labs.flatMap labCell) h3W ⟨wr.heap.size, 0, none⟩ 1 1 (labCell x) rfl hcW (by simp [Value.oneCell', labCell]) (by unfold maxLen; omega) (by omega) (by omega)
  obtain ⟨gv, cv, rfl⟩ := Joins.ownsRow_form ho (by omega)
  have nL := own_not h3W (T := 45) (by decide)
  have nS := own_not h3W (T := 9) (by decide)
  have k2 : W.heap[wa.heap.size]? = _ := (hbW.block _ hlt).trans h2
  have k4 : W.heap[wa.heap.size + 1]? = _ := (hbW.block _ (Array.getElem?_eq_some_iff.1 h4).1).trans h4
  have m2 := block_grown hg k2 (fun g e => nL g e _ _)
  have m4 := block_grown hg k4 (fun g e => nS g e _ _)
  refine ⟨sa, sc, gv, cv, w1, cell_of_row _ _ 2 _ _ _ h2, hlt, hr, cell_of_row _ _ 2 _ _ _ m2, frozen_of_row _ _ 2 _ _ m2, ?_, ⟨.slice (some ⟨gv, 0, none⟩) (labs.length + 1) cv, ?_, ?_⟩, ?_⟩
  · have b1 : Below wa.heap.size wa w1 := (below_c h1 h1.size hbW).grown hg (by have := h1.size; have := hbW.size; omega) (fun r e => by have := (h3W.lt r e).1; omega)
    exact below_row b1 (set_grown w1 ⟨wa.heap.size, 2, none⟩ _) b1.size (Nat.le_refl _)
  · exact heap_setCell_same w1 wa.heap.size 2 _ _ _ m2
  · have hno : ∀ g, some wa.heap.size = some g → ∀ cur fr, w1.heap[g]? ≠ some (.cells cur 47 fr) := by
      intro g e cur fr e'
      injection e with e
      subst e
      rw [m2] at e'
      injection e' with e'
      injection e' with _ e' _
      exact absurd e' (by decide)
    have := kept_typed ho (set_grown w1 ⟨wa.heap.size, 2, none⟩ (.slice (some ⟨gv, 0, none⟩) (labs.length + 1) cv)) hno
    show (w1.setCell _ _).ownsRow _ _ _ _ _ _
    rw [List.flatMap_append, List.length_append]
    simpa using this
  · exact (Below.heap_setCell _ _ _ _ (by show wa.heap.size + 1 ≠ wa.heap.size; omega)).trans m4
/-- An append in a plain region, by its own equation. -/
theorem wpList_append_run {P : Program} {ops : Array Oper} {rest : List Oper} {o : Oper} {a : Act} {w : World} {Q : Exit → Act → World → Prop} (hgd : o.guard = none) (s x : Operand) (t : TypeId)
    (ho : o.op = .call { callee := .builtin .append, args := #[s, x], argTypes := #[t, t] }) {v u r : Value} {w' : World} (hr : (Builtin.append_ #[t, t] o.type #[v, u]).run P w = .ok r w') (hs : a.eval s = v) (hx : a.eval x = u)
    (h : wpList P ops Q rest (a.put o.dst r) w') : wpList P ops Q (o :: rest) a w := by
  refine wpList_plain hgd fun K hK => ?_
  unfold Oper.wp execOp
  simp only [ho, resolve, invoke, builtin, Sem.run_bind, Sem.run_pure, Result.andThen_ok, List.map_toArray, List.map_cons, List.map_nil, hs, hx, hr]
  exact hK _ _ h
/-- An append in a region that draws, by its own equation. -/
theorem step_append_run {P : Program} {ops : Array Oper} {o : Oper} {a : Act} {w : World} {K : Act → World → Prop} {Q : Exit → Act → World → Prop} {E : Prop} (hgd : o.guard = none) (s x : Operand) (t : TypeId)
    (ho : o.op = .call { callee := .builtin .append, args := #[s, x], argTypes := #[t, t] }) {v u r : Value} {w' : World} (hr : (Builtin.append_ #[t, t] o.type #[v, u]).run P w = .ok r w') (hs : a.eval s = v) (hx : a.eval x = u)
    (h : K (a.put o.dst r) w') : if Region.wanted o (yielded ops a.tmps) = true then o.wp P a w K Q else E := by
  rw [if_pos (by simp [Region.wanted, hgd])]
  unfold Oper.wp execOp
  simp only [ho, resolve, invoke, builtin, Sem.run_bind, Sem.run_pure, Result.andThen_ok, List.map_toArray, List.map_cons, List.map_nil, hs, hx, hr]
  exact h
theorem owns_base {w : World} {b b' : Nat} {e : TypeId} {size : Nat} {v : Value} {n : Nat} {xs : List Value} (h : w.ownsRow b e size v n xs) (hb : b' ≤ b) : w.ownsRow b' e size v n xs := by
  obtain ⟨h1, h2 | ⟨g, cap, cur, hv, hg, r⟩⟩ := h
  · exact ⟨h1, .inl h2⟩
  · exact ⟨h1, .inr ⟨g, cap, cur, hv, Nat.le_trans hb hg, r⟩⟩
end Go.Proofs.Ytdahgfopighhlaa
