/-
  Contract of lex.Lines.
-/
import Derived.Test.YtdcpmnkebhilpaaGreatDoorSp
import Derived.Test.YtdcpmnkebhilpaaGreatDoorFo2
namespace Go.Proofs.YtdcpmnkebhilpaaGreatDoor
open Go.RowKit Go.Shelf
attribute [local go_sem] Oper.semAt_some
set_option linter.unusedVariables false
def linesOf (ps : List (List UInt8)) : List ByteArray := (ps.map fun l => (⟨(foldL ⟨l.toArray⟩).toArray⟩ : ByteArray)).filter fun b => decide (0 < b.size)
def linesB (s : ByteArray) : List ByteArray := linesOf (splitL s.data.toList)
def longB (ls : List ByteArray) : Bool := ls.any fun b => decide (60 < b.size)
def linesR (s : ByteArray) : List ByteArray × Int :=
  if 6 < (linesB s).length then ([], 5) else if longB (linesB s) then ([], 3) else (linesB s, 0)
def txts (ps : List Txt) : List (List UInt8) := ps.map fun x => x.1.data.toList
theorem linesOf_snoc (pre : List Txt) (x : Txt) : linesOf (txts (pre ++ [x])) = linesOf (txts pre) ++ (if 0 < (foldL x.1).length then [⟨(foldL x.1).toArray⟩] else []) := by
  unfold linesOf txts
  rw [List.map_append, List.map_append, List.filter_append]
  congr 1
  simp only [List.map_cons, List.map_nil]
  rw [List.filter_cons, List.filter_nil]
  have e : (⟨(foldL ⟨x.1.data.toList.toArray⟩).toArray⟩ : ByteArray) = ⟨(foldL x.1).toArray⟩ := rfl
  have e2 : (⟨(foldL x.1).toArray⟩ : ByteArray).size = (foldL x.1).length := by show (foldL x.1).toArray.size = _; simp
  rw [e, e2]
  by_cases h : 0 < (foldL x.1).length <;> simp [h]
def LBoxes (b0 : Nat) (v : Value) (lg : Bool) (W : World) : Prop :=
  Boxed W (b0 + 1 + 1) 26 v ∧ Boxed W (b0 + 1 + 1 + 1) 4 (.bool lg) ∧ Boxed W b0 26 (.slice none 0 0) ∧ Boxed W (b0 + 1) 43 (.int .i64 0) ∧ b0 + 7 ≤ W.heap.size
theorem LBoxes.keep {b0 : Nat} {v : Value} {lg : Bool} {A B : World} {row : Option Nat} (h : LBoxes b0 v lg A) (hg : A.grownBy B row) (hr : ∀ r, row = some r → b0 + 4 ≤ r) : LBoxes b0 v lg B :=
  ⟨h.1.kept hg (fun e => by have := hr _ e.symm; omega), h.2.1.kept hg (fun e => by have := hr _ e.symm; omega), h.2.2.1.kept hg (fun e => by have := hr _ e.symm; omega), h.2.2.2.1.kept hg (fun e => by have := hr _ e.symm; omega), Nat.le_trans h.2.2.2.2 hg.size⟩
theorem grown_of_below {A B : World} (h : Below A.heap.size A B) : A.grownBy B none := ⟨h.os, h.tape, h.output, h.size, fun k hk _ => h.block k hk⟩
def LinesI (b0 : Nat) (w : World) (pre : List Txt) (W : World) : Prop :=
  ∃ v, LBoxes b0 v (longB (linesOf (txts pre))) W ∧ W.ownsRow (b0 + 7) 9 1 v (linesOf (txts pre)).length ((linesOf (txts pre)).map Value.string) ∧ (linesOf (txts pre)).length ≤ 6 ∧ Below b0 w W
theorem LinesI.keep {b0 : Nat} {w : World} {pre : List Txt} {A B : World} {row : Option Nat} (h : LinesI b0 w pre A) (hg : A.grownBy B row) (hr : ∀ r, row = some r → b0 + 4 ≤ r ∧ (r < b0 + 7 ∨ ∃ o : Obj, A.heap[r]? = some o ∧ o.isCells = false)) : LinesI b0 w pre B := by
  obtain ⟨v, hb, ho, hl, hbel⟩ := h
  refine ⟨v, hb.keep hg (fun r e => (hr r e).1), ho.kept hg ?_, hl, hbel.trans ((Below.refl b0 A).grown hg (by have := hb.2.2.2.2; omega) (fun r e => by have := (hr r e).1; omega))⟩
  rcases ho.2 with ⟨rfl, _⟩ | ⟨g, cap, cur, rfl, hge, hgb, _⟩
  · exact .inl rfl
  · refine .inr fun e => ?_
    obtain ⟨h1, h2⟩ := hr g (by simpa [Value.ownBlock] using e.symm)
    rcases h2 with h2 | ⟨o, ho', hc⟩
    · omega
    · rw [hgb] at ho'; cases ho'; cases hc
def LinesX (b0 : Nat) (w : World) (c : Code) (pre : List Txt) (W : World) : Prop :=
  c = .ret ∧ Boxed W b0 26 (.slice none 0 0) ∧ Boxed W (b0 + 1) 43 (.int .i64 5) ∧ 6 < (linesOf (txts pre)).length ∧ Below b0 w W ∧ b0 + 7 ≤ W.heap.size
theorem LinesX.keep {b0 : Nat} {w : World} {c : Code} {pre : List Txt} {A B : World} {row : Option Nat} (h : LinesX b0 w c pre A) (hg : A.grownBy B row) (hr : ∀ r, row = some r → b0 + 4 ≤ r) : LinesX b0 w c pre B :=
  ⟨h.1, h.2.1.kept hg (fun e => by have := hr _ e.symm; omega), h.2.2.1.kept hg (fun e => by have := hr _ e.symm; omega), h.2.2.2.1, h.2.2.2.2.1.trans ((Below.refl b0 A).grown hg (by have := h.2.2.2.2.2; omega) (fun r e => by have := hr r e; omega)), Nat.le_trans h.2.2.2.2.2 hg.size⟩
theorem box_at {W : World} {n : Nat} {t : TypeId} {v : Value} (h : W.heap.size = n) : Boxed (W.alloc (.cells #[v] t)) n t v := by subst h; exact Boxed.new W t v
def linesW0 (s : ByteArray) (w : World) : World := ((((((w.alloc (.cells #[.slice none 0 0] 26)).alloc (.cells #[.int .i64 0] 43)).alloc (.cells #[.slice none 0 0] 26)).alloc (.cells #[.bool false] 4)).alloc (.cells #[.string s] 9)).alloc
          (.cells #[.string ⟨#[10]⟩] 9)).alloc (.cells #[.int .i64 0] 3)
theorem linesW0_facts (s : ByteArray) (w : World) : (linesW0 s w).heap.size = w.heap.size + 7 ∧ LinesI w.heap.size w [] (linesW0 s w) ∧ Boxed (linesW0 s w) (w.heap.size + 1 + 1 + 1 + 1) 9 (.string s) ∧
    Boxed (linesW0 s w) (w.heap.size + 1 + 1 + 1 + 1 + 1) 9 (.string ⟨#[10]⟩) ∧ Boxed (linesW0 s w) (w.heap.size + 1 + 1 + 1 + 1 + 1 + 1) 3 (.int .i64 0) := by
  have hsz : (linesW0 s w).heap.size = w.heap.size + 7 := by simp [linesW0]
  have hb : Below w.heap.size w (linesW0 s w) := by
    unfold linesW0
    exact (((((((Below.refl _ w).alloc (Nat.le_refl _) _).alloc (by simp) _).alloc (by simp; omega) _).alloc (by simp; omega) _).alloc (by simp; omega) _).alloc (by simp; omega) _).alloc (by simp; omega) _
  refine ⟨hsz, ⟨.slice none 0 0, ⟨?_, ?_, ?_, ?_, by omega⟩, World.ownsRow_nil _ _ _ _, Nat.zero_le _, hb⟩, ?_, ?_, ?_⟩
  all_goals unfold linesW0
  all_goals repeat (first | (refine box_at ?_; simp; done) | refine Boxed.alloc ?_ _)
end Go.Proofs.YtdcpmnkebhilpaaGreatDoor
