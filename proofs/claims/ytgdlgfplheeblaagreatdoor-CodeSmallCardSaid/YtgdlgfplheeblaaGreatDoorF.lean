/-
  Contract of lex.Classes.
-/
import Derived.Test.YtgdlgfplheeblaaGreatDoorD
import Derived.Test.YtgdlgfplheeblaaGreatDoorE
namespace Go.Proofs.YtgdlgfplheeblaaGreatDoor
open Go.RowKit
/-- Which of the 14 classes a word has. -/
def hasB (s : ByteArray) (k : Nat) : Bool :=
  match k with
  | 0 => numberB s
  | 1 => letteredB s
  | 2 => nameB s
  | 3 => kindOf (kindsB s.data.toList) 1
  | 4 => kindOf (kindsB s.data.toList) 2
  | 5 => kindOf (kindsB s.data.toList) 3
  | 6 => kindOf (kindsB s.data.toList) 4
  | 7 => flatB s
  | 8 => matchesB s.data.toList [true, true]
  | 9 => matchesB s.data.toList [false, false, false, false, false]
  | 10 => matchesB s.data.toList [true, false, true, false, true, false]
  | 11 => matchesB s.data.toList [true, false, true]
  | 12 => matchesB s.data.toList [false, true, false]
  | 13 => matchesB s.data.toList [false, false, false, false]
  | _ => false
def classesTo (s : ByteArray) : Nat → Nat
  | 0 => 0
  | k + 1 => classesTo s k + if hasB s k then 2 ^ k else 0
def classesB (s : ByteArray) : Nat := classesTo s 14
theorem classesTo_lt (s : ByteArray) : ∀ k, classesTo s k < 2 ^ k
  | 0 => by simp [classesTo]
  | k + 1 => by
    have := classesTo_lt s k
    rw [classesTo, Nat.pow_succ]
    split <;> omega
def clsC (B : Nat) : Array Value := #[.int .u16 1, .func (.func 74) #[] #[], .int .u16 2, .func (.func 75) #[] #[], .int .u16 4, .func (.func 76) #[] #[],
  .int .u16 8, .func (.func 73) #[] #[.pointer (some ⟨B, 0, none⟩), .pointer (some ⟨B + 1, 0, none⟩)],
  .int .u16 16, .func (.func 73) #[] #[.pointer (some ⟨B, 0, none⟩), .pointer (some ⟨B + 1 + 1, 0, none⟩)],
  .int .u16 32, .func (.func 73) #[] #[.pointer (some ⟨B, 0, none⟩), .pointer (some ⟨B + 1 + 1 + 1, 0, none⟩)],
  .int .u16 64, .func (.func 73) #[] #[.pointer (some ⟨B, 0, none⟩), .pointer (some ⟨B + 1 + 1 + 1 + 1, 0, none⟩)],
  .int .u16 128, .func (.func 77) #[] #[], .int .u16 256, .func (.func 80) #[] #[], .int .u16 512, .func (.func 83) #[] #[],
  .int .u16 1024, .func (.func 85) #[] #[], .int .u16 2048, .func (.func 86) #[] #[], .int .u16 4096, .func (.func 87) #[] #[], .int .u16 8192, .func (.func 88) #[] #[]]
abbrev zeroCls : Array Value := #[.int .u16 0, .nilFunc, .int .u16 0, .nilFunc, .int .u16 0, .nilFunc, .int .u16 0, .nilFunc, .int .u16 0, .nilFunc, .int .u16 0, .nilFunc, .int .u16 0, .nilFunc, .int .u16 0, .nilFunc, .int .u16 0, .nilFunc, .int .u16 0, .nilFunc, .int .u16 0, .nilFunc, .int .u16 0, .nilFunc, .int .u16 0, .nilFunc, .int .u16 0, .nilFunc]
theorem clsC_one (B : Nat) : (clsC B).all (·.oneCell') = true := by kernel_rfl
theorem wpList_buildV {P : Program} {ops : Array Oper} {rest : List Oper} {o : Oper} {a : Act} {w : World} {Q : Exit → Act → World → Prop} (hg : o.guard = none) (t : TypeId) (parts : Array (Nat × Operand)) (ho : o.op = .build t parts)
    (cells0 : Array Value) (h : ∀ cells, Hid (cells0 = cells) → wpList P ops Q rest (a.put o.dst (.agg cells)) w)
    (hf : P.built t (parts.map fun (i, x) => (i, a.eval x)).toList = some cells0) : wpList P ops Q (o :: rest) a w :=
  wpList_buildC hg t parts ho cells0 hf (h cells0 rfl)
theorem heap_new {W : World} {n : Nat} (h : W.heap.size = n) (o : Obj) : (W.alloc o).heap[n]? = some o := by subst h; exact (MapKept.heap_alloc W o).1
theorem cls_size (B : Nat) : (Tryz.prog.info? 127).map (·.size) = some (clsC B).size := by kernel_rfl
theorem cls_zero (B : Nat) : zeroCls.size = (clsC B).size := by kernel_rfl
/-- What the closures of Classes have captured. -/
def ClsW (B : Nat) (ks : Int) (W : World) : Prop := B + 5 < W.heap.size ∧ W.cell? ⟨B, 0, none⟩ = some (.int .u8 ks) ∧ W.cell? ⟨B + 1, 0, none⟩ = some (.int .u8 1) ∧ W.cell? ⟨B + 1 + 1, 0, none⟩ = some (.int .u8 2) ∧
  W.cell? ⟨B + 1 + 1 + 1, 0, none⟩ = some (.int .u8 3) ∧ W.cell? ⟨B + 1 + 1 + 1 + 1, 0, none⟩ = some (.int .u8 4)
theorem ClsW.below {B : Nat} {ks : Int} {W W' : World} (h : ClsW B ks W) (hb : Below W.heap.size W W') : ClsW B ks W' := by
  obtain ⟨h0, h1, h2, h3, h4, h5⟩ := h
  have := hb.size
  exact ⟨by omega, (hb.cell (p := ⟨B, 0, none⟩) (by show B < _; omega)).trans h1, (hb.cell (p := ⟨B + 1, 0, none⟩) (by show B + 1 < _; omega)).trans h2, (hb.cell (p := ⟨B + 1 + 1, 0, none⟩) (by show B + 1 + 1 < _; omega)).trans h3,
    (hb.cell (p := ⟨B + 1 + 1 + 1, 0, none⟩) (by show B + 1 + 1 + 1 < _; omega)).trans h4, (hb.cell (p := ⟨B + 1 + 1 + 1 + 1, 0, none⟩) (by show B + 1 + 1 + 1 + 1 < _; omega)).trans h5⟩
theorem clsW_start (w1 : World) (K : Int) (a b c d e T : TypeId) (z cells : Array Value) : ClsW w1.heap.size K (((((((w1.alloc (.cells #[.int .u8 K] a)).alloc (.cells #[.int .u8 1] b)).alloc (.cells #[.int .u8 2] c)).alloc (.cells #[.int .u8 3] d)).alloc (.cells #[.int .u8 4] e)).alloc (.cells z T)).setRow (w1.heap.size + 1 + 1 + 1 + 1 + 1) cells) := by
  refine ⟨by simp, ?_, ?_, ?_, ?_, ?_⟩
  all_goals
    rw [cell_setRow_other _ _ _ _ (by simp; try omega)]
    simp [go_sem]
theorem kindsB_lt (l : List UInt8) : kindsB l < 64 := kindsTo_lt l 40 (Nat.le_refl _)
/-- What one of the 14 functions is. -/
def HasAt (s : ByteArray) (B k : Nat) : Prop := ∃ (g : Nat) (caps : Array Value), (∀ w, (Instr.index 127 (.agg (clsC B)) (.int .i64 k)).run Tryz.prog w = .ok (.agg #[.int .u16 ((2 ^ k : Nat) : Int), .func (.func g) #[] caps]) w) ∧
  (∀ args w, (callFunc g args).run Tryz.prog w = .ok (.enter g args) w) ∧
  (∀ W, ClsW B (kindsB s.data.toList) W → Calls Tryz.prog g (#[.string s] ++ caps) W fun e W' => e = .returned (.bool (hasB s k)) ∧ Below W.heap.size W W')
theorem has_at (s : ByteArray) (hs : s.size ≤ maxLen) (B k : Nat) (hk : k < 14) : HasAt s B k :=
  match k, hk with
  | 0, _ => ⟨74, #[], fun w => by as_aux_lemma => kernel_rfl, Tryz.call74, fun W hW => (number_any s W hs).mono fun e W' h => ⟨h.1, h.2 ▸ Below.refl _ _⟩⟩
  | 1, _ => ⟨75, #[], fun w => by as_aux_lemma => kernel_rfl, Tryz.call75, fun W hW => (lettered_any s W hs).mono fun e W' h => ⟨h.1, h.2 ▸ Below.refl _ _⟩⟩
  | 2, _ => ⟨76, #[], fun w => by as_aux_lemma => kernel_rfl, Tryz.call76, fun W hW => name_any s W hs⟩
  | 3, _ => ⟨73, #[.pointer (some ⟨B, 0, none⟩), .pointer (some ⟨B + 1, 0, none⟩)], fun w => by as_aux_lemma => kernel_rfl, Tryz.call73, fun W hW => (classes11_any s _ 1 B (B + 1) W (by decide) (by decide) (by omega) (by have := kindsB_lt s.data.toList; omega) hW.2.1 hW.2.2.1).mono fun e W' h => ⟨h.1, h.2 ▸ Below.refl _ _⟩⟩
  | 4, _ => ⟨73, #[.pointer (some ⟨B, 0, none⟩), .pointer (some ⟨B + 1 + 1, 0, none⟩)], fun w => by as_aux_lemma => kernel_rfl, Tryz.call73, fun W hW => (classes11_any s _ 2 B (B + 1 + 1) W (by decide) (by decide) (by omega) (by have := kindsB_lt s.data.toList; omega) hW.2.1 hW.2.2.2.1).mono fun e W' h => ⟨h.1, h.2 ▸ Below.refl _ _⟩⟩
  | 5, _ => ⟨73, #[.pointer (some ⟨B, 0, none⟩), .pointer (some ⟨B + 1 + 1 + 1, 0, none⟩)], fun w => by as_aux_lemma => kernel_rfl, Tryz.call73, fun W hW => (classes11_any s _ 3 B (B + 1 + 1 + 1) W (by decide) (by decide) (by omega) (by have := kindsB_lt s.data.toList; omega) hW.2.1 hW.2.2.2.2.1).mono fun e W' h => ⟨h.1, h.2 ▸ Below.refl _ _⟩⟩
  | 6, _ => ⟨73, #[.pointer (some ⟨B, 0, none⟩), .pointer (some ⟨B + 1 + 1 + 1 + 1, 0, none⟩)], fun w => by as_aux_lemma => kernel_rfl, Tryz.call73, fun W hW => (classes11_any s _ 4 B (B + 1 + 1 + 1 + 1) W (by decide) (by decide) (by omega) (by have := kindsB_lt s.data.toList; omega) hW.2.1 hW.2.2.2.2.2).mono fun e W' h => ⟨h.1, h.2 ▸ Below.refl _ _⟩⟩
  | 7, _ => ⟨77, #[], fun w => by as_aux_lemma => kernel_rfl, Tryz.call77, fun W hW => (classes2_any s W hs).mono fun e W' h => ⟨h.1, h.2 ▸ Below.refl _ _⟩⟩
  | 8, _ => ⟨80, #[], fun w => by as_aux_lemma => kernel_rfl, Tryz.call80, fun W hW => classes3_any s W hs⟩
  | 9, _ => ⟨83, #[], fun w => by as_aux_lemma => kernel_rfl, Tryz.call83, fun W hW => classes4_any s W hs⟩
  | 10, _ => ⟨85, #[], fun w => by as_aux_lemma => kernel_rfl, Tryz.call85, fun W hW => classes5_any s W hs⟩
  | 11, _ => ⟨86, #[], fun w => by as_aux_lemma => kernel_rfl, Tryz.call86, fun W hW => classes6_any s W hs⟩
  | 12, _ => ⟨87, #[], fun w => by as_aux_lemma => kernel_rfl, Tryz.call87, fun W hW => classes7_any s W hs⟩
  | 13, _ => ⟨88, #[], fun w => by as_aux_lemma => kernel_rfl, Tryz.call88, fun W hW => classes8_any s W hs⟩
  | k + 14, h => absurd h (by omega)
end Go.Proofs.YtgdlgfplheeblaaGreatDoor
