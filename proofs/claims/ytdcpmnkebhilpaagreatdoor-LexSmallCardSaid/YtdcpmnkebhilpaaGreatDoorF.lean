/-
  Contract of lex.Classes.
-/
import Derived.Test.YtdcpmnkebhilpaaGreatDoorD
import Derived.Test.YtdcpmnkebhilpaaGreatDoorE
namespace Go.Proofs.YtdcpmnkebhilpaaGreatDoor
open Go.RowKit
def hasB (s : ByteArray) (k : Nat) : Bool :=
  match k with
  | 0 => numberB s
  | 1 => letteredB s
  | 2 => nameB s
  | 3 => kindOf (kindsB s.data.toList) 1
  | 4 => kindOf (kindsB s.data.toList) 2
  | 5 => kindOf (kindsB s.data.toList) 3
  | 6 => kindOf (kindsB s.data.toList) 4
  | 7 => flatB s
  | 8 => matchesB s.data.toList [true, true]
  | 9 => matchesB s.data.toList [false, false, false, false, false]
  | 10 => matchesB s.data.toList [true, false, true, false, true, false]
  | 11 => matchesB s.data.toList [true, false, true]
  | 12 => matchesB s.data.toList [false, true, false]
  | 13 => matchesB s.data.toList [false, false, false, false]
  | _ => false
def classesTo (s : ByteArray) : Nat → Nat
  | 0 => 0
  | k + 1 => classesTo s k + if hasB s k then 2 ^ k else 0
def classesB (s : ByteArray) : Nat := classesTo s 14
theorem classesTo_lt (s : ByteArray) : ∀ k, classesTo s k < 2 ^ k
  | 0 => by simp [classesTo]
  | k + 1 => by
    have := classesTo_lt s k
    rw [classesTo, Nat.pow_succ]
    split <;> omega
def clsC (B : Nat) : Array Value := #[.int .u16 1, .func (.func 38) #[] #[], .int .u16 2, .func (.func 37) #[] #[], .int .u16 4, .func (.func 45) #[] #[],
  .int .u16 8, .func (.func 44) #[] #[.pointer (some ⟨B, 0, none⟩), .pointer (some ⟨B + 1, 0, none⟩)],
  .int .u16 16, .func (.func 44) #[] #[.pointer (some ⟨B, 0, none⟩), .pointer (some ⟨B + 1 + 1, 0, none⟩)],
  .int .u16 32, .func (.func 44) #[] #[.pointer (some ⟨B, 0, none⟩), .pointer (some ⟨B + 1 + 1 + 1, 0, none⟩)],
  .int .u16 64, .func (.func 44) #[] #[.pointer (some ⟨B, 0, none⟩), .pointer (some ⟨B + 1 + 1 + 1 + 1, 0, none⟩)],
  .int .u16 128, .func (.func 46) #[] #[], .int .u16 256, .func (.func 49) #[] #[], .int .u16 512, .func (.func 52) #[] #[],
  .int .u16 1024, .func (.func 54) #[] #[], .int .u16 2048, .func (.func 55) #[] #[], .int .u16 4096, .func (.func 56) #[] #[], .int .u16 8192, .func (.func 57) #[] #[]]
abbrev zeroCls : Array Value := #[.int .u16 0, .nilFunc, .int .u16 0, .nilFunc, .int .u16 0, .nilFunc, .int .u16 0, .nilFunc, .int .u16 0, .nilFunc, .int .u16 0, .nilFunc, .int .u16 0, .nilFunc, .int .u16 0, .nilFunc, .int .u16 0, .nilFunc, .int .u16 0, .nilFunc, .int .u16 0, .nilFunc, .int .u16 0, .nilFunc, .int .u16 0, .nilFunc, .int .u16 0, .nilFunc]
theorem clsC_one (B : Nat) : (clsC B).all (·.oneCell') = true := by kernel_rfl
theorem wpList_buildV {P : Program} {ops : Array Oper} {rest : List Oper} {o : Oper} {a : Act} {w : World} {Q : Exit → Act → World → Prop} (hg : o.guard = none) (t : TypeId) (parts : Array (Nat × Operand)) (ho : o.op = .build t parts)
    (cells0 : Array Value) (h : ∀ cells, Hid (cells0 = cells) → wpList P ops Q rest (a.put o.dst (.agg cells)) w)
    (hf : P.built t (parts.map fun (i, x) => (i, a.eval x)).toList = some cells0) : wpList P ops Q (o :: rest) a w :=
  wpList_buildC hg t parts ho cells0 hf (h cells0 rfl)
theorem heap_new {W : World} {n : Nat} (h : W.heap.size = n) (o : Obj) : (W.alloc o).heap[n]? = some o := by subst h; exact (MapKept.heap_alloc W o).1
theorem cls_size (B : Nat) : (Tryz.prog.info? 76).map (·.size) = some (clsC B).size := by kernel_rfl
theorem cls_zero (B : Nat) : zeroCls.size = (clsC B).size := by kernel_rfl
def ClsW (B : Nat) (ks : Int) (W : World) : Prop := B + 5 < W.heap.size ∧ W.cell? ⟨B, 0, none⟩ = some (.int .u8 ks) ∧ W.cell? ⟨B + 1, 0, none⟩ = some (.int .u8 1) ∧ W.cell? ⟨B + 1 + 1, 0, none⟩ = some (.int .u8 2) ∧
  W.cell? ⟨B + 1 + 1 + 1, 0, none⟩ = some (.int .u8 3) ∧ W.cell? ⟨B + 1 + 1 + 1 + 1, 0, none⟩ = some (.int .u8 4)
theorem ClsW.below {B : Nat} {ks : Int} {W W' : World} (h : ClsW B ks W) (hb : Below W.heap.size W W') : ClsW B ks W' := by
  obtain ⟨h0, h1, h2, h3, h4, h5⟩ := h
  have := hb.size
  exact ⟨by omega, (hb.cell (p := ⟨B, 0, none⟩) (by show B < _; omega)).trans h1, (hb.cell (p := ⟨B + 1, 0, none⟩) (by show B + 1 < _; omega)).trans h2, (hb.cell (p := ⟨B + 1 + 1, 0, none⟩) (by show B + 1 + 1 < _; omega)).trans h3,
    (hb.cell (p := ⟨B + 1 + 1 + 1, 0, none⟩) (by show B + 1 + 1 + 1 < _; omega)).trans h4, (hb.cell (p := ⟨B + 1 + 1 + 1 + 1, 0, none⟩) (by show B + 1 + 1 + 1 + 1 < _; omega)).trans h5⟩
theorem clsW_start (w1 : World) (K : Int) (a b c d e T : TypeId) (z cells : Array Value) : ClsW w1.heap.size K (((((((w1.alloc (.cells #[.int .u8 K] a)).alloc (.cells #[.int .u8 1] b)).alloc (.cells #[.int .u8 2] c)).alloc (.cells #[.int .u8 3] d)).alloc (.cells #[.int .u8 4] e)).alloc (.cells z T)).setRow (w1.heap.size + 1 + 1 + 1 + 1 + 1) cells) := by
  refine ⟨by simp, ?_, ?_, ?_, ?_, ?_⟩
  all_goals
    rw [cell_setRow_other _ _ _ _ (by simp; try omega)]
    simp [go_sem]
theorem kindsB_lt (l : List UInt8) : kindsB l < 64 := kindsTo_lt l 40 (Nat.le_refl _)
def HasAt (s : ByteArray) (B k : Nat) : Prop := ∃ (g : Nat) (caps : Array Value), (∀ w, (Instr.index 76 (.agg (clsC B)) (.int .i64 k)).run Tryz.prog w = .ok (.agg #[.int .u16 ((2 ^ k : Nat) : Int), .func (.func g) #[] caps]) w) ∧
  (∀ args w, (callFunc g args).run Tryz.prog w = .ok (.enter g args) w) ∧
  (∀ W, ClsW B (kindsB s.data.toList) W → Calls Tryz.prog g (#[.string s] ++ caps) W fun e W' => e = .returned (.bool (hasB s k)) ∧ Below W.heap.size W W')
theorem has_at (s : ByteArray) (hs : s.size ≤ maxLen) (B k : Nat) (hk : k < 14) : HasAt s B k :=
  match k, hk with
  | 0, _ => ⟨38, #[], fun w => by as_aux_lemma => kernel_rfl, Tryz.call38, fun W hW => (number_any s W hs).mono fun e W' h => ⟨h.1, h.2 ▸ Below.refl _ _⟩⟩
  | 1, _ => ⟨37, #[], fun w => by as_aux_lemma => kernel_rfl, Tryz.call37, fun W hW => (lettered_any s W hs).mono fun e W' h => ⟨h.1, h.2 ▸ Below.refl _ _⟩⟩
  | 2, _ => ⟨45, #[], fun w => by as_aux_lemma => kernel_rfl, Tryz.call45, fun W hW => name_any s W hs⟩
  | 3, _ => ⟨44, #[.pointer (some ⟨B, 0, none⟩), .pointer (some ⟨B + 1, 0, none⟩)], fun w => by as_aux_lemma => kernel_rfl, Tryz.call44, fun W hW => (classes11_any s _ 1 B (B + 1) W (by decide) (by decide) (by omega) (by have := kindsB_lt s.data.toList; omega) hW.2.1 hW.2.2.1).mono fun e W' h => ⟨h.1, h.2 ▸ Below.refl _ _⟩⟩
  | 4, _ => ⟨44, #[.pointer (some ⟨B, 0, none⟩), .pointer (some ⟨B + 1 + 1, 0, none⟩)], fun w => by as_aux_lemma => kernel_rfl, Tryz.call44, fun W hW => (classes11_any s _ 2 B (B + 1 + 1) W (by decide) (by decide) (by omega) (by have := kindsB_lt s.data.toList; omega) hW.2.1 hW.2.2.2.1).mono fun e W' h => ⟨h.1, h.2 ▸ Below.refl _ _⟩⟩
  | 5, _ => ⟨44, #[.pointer (some ⟨B, 0, none⟩), .pointer (some ⟨B + 1 + 1 + 1, 0, none⟩)], fun w => by as_aux_lemma => kernel_rfl, Tryz.call44, fun W hW => (classes11_any s _ 3 B (B + 1 + 1 + 1) W (by decide) (by decide) (by omega) (by have := kindsB_lt s.data.toList; omega) hW.2.1 hW.2.2.2.2.1).mono fun e W' h => ⟨h.1, h.2 ▸ Below.refl _ _⟩⟩
  | 6, _ => ⟨44, #[.pointer (some ⟨B, 0, none⟩), .pointer (some ⟨B + 1 + 1 + 1 + 1, 0, none⟩)], fun w => by as_aux_lemma => kernel_rfl, Tryz.call44, fun W hW => (classes11_any s _ 4 B (B + 1 + 1 + 1 + 1) W (by decide) (by decide) (by omega) (by have := kindsB_lt s.data.toList; omega) hW.2.1 hW.2.2.2.2.2).mono fun e W' h => ⟨h.1, h.2 ▸ Below.refl _ _⟩⟩
  | 7, _ => ⟨46, #[], fun w => by as_aux_lemma => kernel_rfl, Tryz.call46, fun W hW => (classes2_any s W hs).mono fun e W' h => ⟨h.1, h.2 ▸ Below.refl _ _⟩⟩
  | 8, _ => ⟨49, #[], fun w => by as_aux_lemma => kernel_rfl, Tryz.call49, fun W hW => classes3_any s W hs⟩
  | 9, _ => ⟨52, #[], fun w => by as_aux_lemma => kernel_rfl, Tryz.call52, fun W hW => classes4_any s W hs⟩
  | 10, _ => ⟨54, #[], fun w => by as_aux_lemma => kernel_rfl, Tryz.call54, fun W hW => classes5_any s W hs⟩
  | 11, _ => ⟨55, #[], fun w => by as_aux_lemma => kernel_rfl, Tryz.call55, fun W hW => classes6_any s W hs⟩
  | 12, _ => ⟨56, #[], fun w => by as_aux_lemma => kernel_rfl, Tryz.call56, fun W hW => classes7_any s W hs⟩
  | 13, _ => ⟨57, #[], fun w => by as_aux_lemma => kernel_rfl, Tryz.call57, fun W hW => classes8_any s W hs⟩
  | k + 14, h => absurd h (by omega)
end Go.Proofs.YtdcpmnkebhilpaaGreatDoor
