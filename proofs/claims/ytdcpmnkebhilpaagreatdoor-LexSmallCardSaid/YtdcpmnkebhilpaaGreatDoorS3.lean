/-
  What LexSmall asks of the library: Trim, Repeat, TrimSpace, Split; lines that are typed out.
-/
import Derived.Test.YtdcpmnkebhilpaaGreatDoorS2
import Derived.Test.YtdcpmnkebhilpaaGreatDoorR5
import Derived.Test.YtdcpmnkebhilpaaGreatDoorShelf2
import Derived.Lib.QuietBelow
import Derived.BigQuiet
import Derived.Lib.Repeat
import Derived.Lib.Space
import Derived.Lib.AtoiErrMem
import Derived.WalkSmall
namespace Go.Proofs.YtdcpmnkebhilpaaGreatDoor
open Go.RowKit Go.Shelf Go.Sort
set_option linter.unusedVariables false
set_option maxRecDepth 100000
theorem regrown_in {P : Program} {f : FuncId} {args : Array Value} {w : World} {v : Value} (h : ∀ W, Below w.heap.size w W → Calls P f args W fun e w' => e = .returned v ∧ Below W.heap.size W w') (p : Regrown) :
    Calls P f args (grow (redrawn w p.d) p.os) fun e w'' => e = .returned v ∧ ∃ p : Regrown, w'' = grow (redrawn w p.d) p.os :=
  Calls.regrown_of (h _ (below_regrown w p.d p.os))
theorem below_inM (w : World) (p : Regrown) : Below w.heap.size w (grow (redrawn w p.d) p.os) := below_regrown w p.d p.os
theorem below_c {B : Nat} {w wr w2 : World} (h : Below B w wr) (hB : B ≤ wr.heap.size) (h2 : Below wr.heap.size wr w2) : Below B w w2 := h.trans (h2.mono hB)
theorem trimB_len (l : List UInt8) (c : UInt8) : (Lib.trimB l c).length ≤ l.length := by
  unfold Lib.trimB Lib.trimLeftB Lib.trimRightB
  have h1 := (List.dropWhile_sublist (· == c) (l := (l.reverse.dropWhile (· == c)).reverse)).length_le
  have h2 := (List.dropWhile_sublist (· == c) (l := l.reverse)).length_le
  simp only [List.length_reverse] at h1 h2
  omega
theorem trimU_any (s : ByteArray) (w : World) (hs : s.size ≤ 100) :
    Calls Tryz.prog 4 #[.string s, .string ⟨#[95]⟩] w fun e w' => ∃ t : ByteArray, e = .returned (.string t) ∧ t.size ≤ s.size ∧ Below w.heap.size w w' := by
  refine (Tryz.strings_Trim_one s 95 (by decide) w (by omega)).mono ?_
  rintro e w' ⟨rfl, hw⟩
  refine ⟨_, rfl, ?_, ?_⟩
  · have := trimB_len s.data.toList 95
    rw [show s.data.toList.length = s.size by simp] at this
    show (Lib.trimB s.data.toList 95).toArray.size ≤ _
    rw [List.size_toArray]; exact this
  · rcases hw with rfl | rfl
    · exact Below.refl _ _
    · exact (Below.refl _ _).drew
theorem repeat_any (s : ByteArray) (c : Nat) (w : World) (hs : s.size ≤ 100) (hc : c ≤ 1000) :
    Calls Tryz.prog 28 #[.string s, .int .i64 (c : Nat)] w fun e w' => e = .returned (.string ⟨(Lib.repeatL s.data.toList c).toArray⟩) ∧ Below w.heap.size w w' :=
  Tryz.strings_Repeat s c w (by omega) (by have := Nat.mul_le_mul hs hc; omega)
theorem repeat_size (s : ByteArray) (c : Nat) : (⟨(Lib.repeatL s.data.toList c).toArray⟩ : ByteArray).size = c * s.size := by
  show (Lib.repeatL s.data.toList c).toArray.size = _
  rw [List.size_toArray, Lib.repeatL_length, show s.data.toList.length = s.size by simp]
theorem repeat_ascii (l : List UInt8) (h : ∀ b ∈ l, b.toNat < 128) : ∀ c, ∀ b ∈ Lib.repeatL l c, b.toNat < 128
  | 0, b, hb => by simp [Lib.repeatL] at hb
  | c + 1, b, hb => by
    rw [Lib.repeatL, List.mem_append] at hb
    rcases hb with hb | hb
    · exact h b hb
    · exact repeat_ascii l h c b hb
theorem trimS_len (l : List UInt8) : (Lib.trimSpace l).length ≤ l.length := by
  unfold Lib.trimSpace
  have h1 := (List.dropWhile_sublist Lib.isSp (l := (l.dropWhile Lib.isSp).reverse)).length_le
  have h2 := (List.dropWhile_sublist Lib.isSp (l := l)).length_le
  simp only [List.length_reverse] at h1 ⊢
  omega
def SpW (w : World) : Prop := Lib.TabIs Tryz.prog w "strings.asciiSpace" .u8 Lib.asciiSpaceTab ∧ 0 < w.heap.size
theorem SpW.below {W W' : World} (h : SpW W) (hb : Below W.heap.size W W') : SpW W' :=
  ⟨var?_below hb (show Tryz.prog.globalNamed "strings.asciiSpace" = some 0 by kernel_rfl) h.2 h.1, Nat.lt_of_lt_of_le h.2 hb.size⟩
theorem trimSpace_any (s : ByteArray) (w : World) (hs : s.size ≤ 1000) (ha : ∀ b ∈ s.data.toList, b.toNat < 128) (ht : SpW w) :
    Calls Tryz.prog 30 #[.string s] w fun e w' => ∃ t : ByteArray, e = .returned (.string t) ∧ t.size ≤ s.size ∧ Below w.heap.size w w' := by
  refine (Tryz.strings_TrimSpace s w (by omega) (fun j b hb => ha b (List.mem_of_getElem? hb)) ht.1).mono ?_
  rintro e w' ⟨rfl, rfl⟩
  refine ⟨_, rfl, ?_, Lib.bytesWorld_below _ _ _⟩
  have := trimS_len s.data.toList
  rw [show s.data.toList.length = s.size by simp] at this
  show (Lib.trimSpace s.data.toList).toArray.size ≤ _
  rw [List.size_toArray]; exact this
/-- A row of strings in a new block: its first n. -/
theorem row_new (W : World) (P : List ByteArray) (n : Nat) (hn : n ≤ P.length) (hp : P.length ≤ 1000) :
    (W.alloc (.cells (P.map Value.string).toArray 9)).ownsRow W.heap.size 9 1 (.slice (some ⟨W.heap.size, 0, none⟩) n P.length) (P.take n).length ((P.take n).map Value.string) := by
  have hl : (P.take n).length = n := by rw [List.length_take]; omega
  refine ⟨by rw [List.length_map, Nat.mul_one], .inr ⟨W.heap.size, P.length, _, by rw [hl], Nat.le_refl _, World.alloc_heap_new _ _, by omega, by unfold maxLen; omega, by simp, ?_⟩⟩
  rw [hl, Nat.mul_one, List.map_take]
theorem cell_below {w W : World} {m : Int} (h0 : 4 < w.heap.size) (hm : w.cell? ⟨4, 0, none⟩ = some (.int .i64 m)) (hB : Below w.heap.size w W) : 4 < W.heap.size ∧ W.cell? ⟨4, 0, none⟩ = some (.int .i64 m) :=
  ⟨Nat.lt_of_lt_of_le h0 hB.size, (hB.cell (p := ⟨4, 0, none⟩) h0).trans hm⟩
/-- What the walk knows of the world: the cell of bytealg.MaxLen. -/
structure MxW (m : Int) (w : World) : Prop where
  lt : 4 < w.heap.size
  at_ : w.cell? ⟨4, 0, none⟩ = some (.int .i64 m)
theorem MxW.below {m : Int} {w W : World} (h : MxW m w) (hB : Below w.heap.size w W) : MxW m W := ⟨(cell_below h.lt h.at_ hB).1, (cell_below h.lt h.at_ hB).2⟩
theorem tok_one (a : ByteArray) {m : Int} {W : World} (h : MxW m W) (ha : a.size ≤ 1000) :
    Calls Tryz.prog 6 #[.slice (some ⟨W.heap.size, 0, none⟩) 1 1] (W.alloc (.cells #[.string a] 9)) fun e w' => e = .returned (.bool true) ∧ Below W.heap.size W w' := by
  have hb : Below W.heap.size W (W.alloc (.cells #[.string a] 9)) := (Below.refl _ _).alloc (Nat.le_refl _) _
  have hk := h.below hb
  refine (lawTokens_any [a] _ W.heap.size m _ (by simp) (fun s hs => by simp at hs; rw [hs]; exact ha) hk.lt hk.at_ (row_new W [a] 1 (by simp) (by simp))).mono ?_
  rintro e w' ⟨rfl, h2⟩
  exact ⟨rfl, hb.trans (h2.mono hb.size)⟩
theorem tok_two (a b : ByteArray) {m : Int} {W : World} (h : MxW m W) (ha : a.size ≤ 1000) (hb1 : b.size ≤ 1000) :
    Calls Tryz.prog 6 #[.slice (some ⟨W.heap.size, 0, none⟩) 2 2] (W.alloc (.cells #[.string a, .string b] 9)) fun e w' => e = .returned (.bool true) ∧ Below W.heap.size W w' := by
  have hb : Below W.heap.size W (W.alloc (.cells #[.string a, .string b] 9)) := (Below.refl _ _).alloc (Nat.le_refl _) _
  have hk := h.below hb
  refine (lawTokens_any [a, b] _ W.heap.size m _ (by simp) (fun s hs => by simp at hs; rcases hs with rfl | rfl <;> assumption) hk.lt hk.at_ (row_new W [a, b] 2 (by simp) (by simp))).mono ?_
  rintro e w' ⟨rfl, h2⟩
  exact ⟨rfl, hb.trans (h2.mono hb.size)⟩
theorem splitB_len (sep : ByteArray) (sv : Nat) : ∀ (k : Nat) (s : ByteArray), (Lib.splitB sep sv k s).length ≤ k + 1
  | 0, s => by simp [Lib.splitB]
  | k + 1, s => by
    unfold Lib.splitB
    split
    · simp
    · have := splitB_len sep sv k (s.extract ((Lib.indexB s sep).toNat + sep.size) s.size)
      simp; omega
theorem splitB_size (sep : ByteArray) : ∀ (k : Nat) (s : ByteArray), ∀ b ∈ Lib.splitB sep 0 k s, b.size ≤ s.size
  | 0, s, b, hb => by simp [Lib.splitB] at hb; rw [hb]; exact Nat.le_refl _
  | k + 1, s, b, hb => by
    unfold Lib.splitB at hb
    split at hb
    · simp at hb; rw [hb]; exact Nat.le_refl _
    · rcases List.mem_cons.1 hb with rfl | hb
      · rw [ByteArray.size_extract]; omega
      · have := splitB_size sep k _ b hb
        rw [ByteArray.size_extract] at this; omega
end Go.Proofs.YtdcpmnkebhilpaaGreatDoor
