/-
  Small facts that the walks of this seat share, and the plain words of package scheme.
-/
import Derived.Test.YtdahgfopighhlaaProg
import Derived.WalkKit
import Derived.WalkSpells
import Derived.WalkLawsBesides
import Derived.Outline
import Derived.Below
import Derived.OneCell
import Derived.OwnWalk
import Derived.Deep.QuietTactic
import Derived.BigQuiet
import Derived.Lib.Hide
import Derived.RegionTactic
import Derived.ChangeAlike
import Derived.Deep.RegionWith
import Derived.Deep.DeepCutAuto
import Derived.Deep.RegionHeld3
import Derived.Maps.OwnOps
import Derived.Maps.OwnSet
import Derived.Maps.StringElems
import Derived.WideShapes
namespace Go.Proofs.Ytdahgfopighhlaa
open Go.RowKit
set_option linter.unusedVariables false
theorem ret_bool {a b : Bool} (h : a = b) : Ending.returned (.bool a) = .returned (.bool b) := by rw [h]
theorem ret_int {k : IntKind} {a b : Int} (h : a = b) : Ending.returned (.int k a) = .returned (.int k b) := by rw [h]
theorem ret_str {a b : ByteArray} (h : a = b) : Ending.returned (.string a) = .returned (.string b) := by rw [h]
theorem grown_none {A B : World} (h : Below A.heap.size A B) : A.grownBy B none := ⟨h.os, h.tape, h.output, h.size, fun k hk _ => h.block k hk⟩
theorem upto_succ {P : Nat → Prop} {k : Nat} (h : ∀ j, j < k → P j) (hk : P k) : ∀ j, j < k + 1 → P j := fun j hj => by
  by_cases e : j = k
  · subst e; exact hk
  · exact h j (by omega)
theorem alloc_new (w : World) (o : Obj) : (w.alloc o).heap[w.heap.size]? = some o := by
  show (w.heap.push o)[w.heap.size]? = some o
  simp
theorem ba_inj {a b : ByteArray} (h : a.data.toList = b.data.toList) : a = b := WideShapes.bytes_inj h
theorem ba_eq (a b : ByteArray) : (a.toList == b.toList) = decide (a = b) := by
  rw [ByteArray.toList_eq, ByteArray.toList_eq, Bool.eq_iff_iff]
  simp only [beq_iff_eq, decide_eq_true_eq]
  exact ⟨fun h => ba_inj h, fun h => by rw [h]⟩
theorem cell_lt {W : World} {b o : Nat} {v : Value} (h : W.cell? ⟨b, o, none⟩ = some v) : b < W.heap.size := by
  rcases Nat.lt_or_ge b W.heap.size with h' | h'
  · exact h'
  · have : W.heap[b]? = none := Array.getElem?_eq_none h'
    simp [World.cell?, this] at h
theorem bcell {W w1 : World} (hb : Below W.heap.size W w1) : (∀ b o, b < W.heap.size → w1.cell? ⟨b, o, none⟩ = W.cell? ⟨b, o, none⟩) ∧ (∀ b o, b < W.heap.size → w1.frozen? ⟨b, o, none⟩ = W.frozen? ⟨b, o, none⟩) :=
  ⟨fun b o h => hb.cell (p := ⟨b, o, none⟩) h, fun b o h => hb.frozen (p := ⟨b, o, none⟩) h⟩
/-- Bytes of a text that is laid as a slice of bytes. -/
theorem conv_bytes (W : World) (t : ByteArray) : ∃ (cap : Nat) (C : Array Value), t.size ≤ cap ∧
    Sem.run Try.prog (convert 9 23 (.string t)) W = .ok (.slice (some ⟨W.heap.size, 0, none⟩) t.size cap) (W.drew.alloc (.cells C 5 (C.size, C.size + 1))) ∧
    ∀ j (h : j < t.size), (W.alloc (.cells C 5 (C.size, C.size + 1))).cell? ⟨W.heap.size, j, none⟩ = some (.int .u8 (t[j].toNat : Int)) := by
  have hcap := grownCap_ge W t.size 0 5
  have hconv := run_bytes_of_string (P := Try.prog) W 9 23 5 t Try.underlying9 Try.underlying23 Try.underlying5
  generalize grownCap W t.size 0 5 = cap at hcap hconv
  have hC : ∀ j (h : j < t.size), (bytesRow t cap)[j]? = some (.int .u8 (t[j].toNat : Int)) := fun j h => by
    unfold bytesRow
    rw [Array.getElem?_append_left (by simpa using h), Array.getElem?_map, Array.getElem?_eq_getElem h]
    rfl
  generalize bytesRow t cap = C at hconv hC
  have hblk : (W.alloc (.cells C 5 (C.size, C.size + 1))).heap[W.heap.size]? = some (.cells C 5 (C.size, C.size + 1)) := alloc_new W _
  exact ⟨cap, C, hcap, hconv, fun j h => by simp only [World.cell?, hblk]; exact hC j h⟩
/-- All bytes meet a test. -/
def allB (p : Int → Bool) (s : ByteArray) : Bool := s.data.toList.all (fun c => p c.toNat)
theorem allB_true {p : Int → Bool} {s : ByteArray} (h : ∀ j, j < s.size → ∀ h : j < s.size, p s[j].toNat = true) : allB p s = true := by
  unfold allB
  rw [List.all_eq_true]
  intro c hc
  obtain ⟨j, hj, rfl⟩ := List.mem_iff_getElem.1 hc
  have hj' : j < s.size := by simpa using hj
  exact h j hj' hj'
theorem allB_false {p : Int → Bool} {s : ByteArray} {k : Nat} (hk : k < s.size) (h : p s[k].toNat = false) : allB p s = false := by
  unfold allB
  rw [List.all_eq_false]
  exact ⟨s[k], Array.mem_toList_iff.2 (Array.getElem_mem (xs := s.data) hk), by rw [h]; simp⟩
def plainC (n : Int) : Bool := decide (65 ≤ n ∧ n ≤ 90) || decide (48 ≤ n ∧ n ≤ 57)
def plainB (s : ByteArray) : Bool := allB plainC s
def nameC (n : Int) : Bool := decide (33 ≤ n ∧ n ≤ 126)
def codeB (s : ByteArray) : Bool := decide (1 ≤ s.size) && decide (s.size ≤ 10) && plainB s
def nameB (s : ByteArray) : Bool := decide (1 ≤ s.size) && decide (s.size ≤ 20) && allB nameC s
structure Lab where
  pre : ByteArray
  grp : ByteArray
structure Lev where
  name : ByteArray
  pre : Int
  labs : List Lab
  min : Int
  cents : Int
def ltB (a b : ByteArray) : Bool := decide (a.data.toList < b.data.toList)
theorem bytesLess_lt : ∀ (x y : List UInt8), Op.bytesLess x y = decide (x < y)
  | [], [] => by simp [Op.bytesLess]
  | _ :: _, [] => by simp [Op.bytesLess]
  | [], _ :: _ => by simp [Op.bytesLess]
  | a :: x, b :: y => by
    rw [Op.bytesLess, bytesLess_lt x y]
    simp only [List.cons_lt_cons_iff]
    by_cases h1 : a < b <;> by_cases h2 : a = b <;> by_cases h3 : x < y <;> simp [h1, h2, h3]
theorem less_eq (a b : ByteArray) : Op.bytesLess a.toList b.toList = ltB a b := by
  rw [ByteArray.toList_eq, ByteArray.toList_eq, bytesLess_lt]; rfl
theorem ltB_irrefl (a : ByteArray) : ltB a a = false := by unfold ltB; simp [List.lt_irrefl]
theorem ltB_trans {a b c : ByteArray} (h : ltB a b = true) (h' : ltB b c = true) : ltB a c = true := by
  unfold ltB at *
  simp only [decide_eq_true_eq] at *
  exact List.lt_trans h h'
theorem ltB_asymm {a b : ByteArray} (h : ltB a b = true) : ltB b a = false := by
  cases h' : ltB b a
  · rfl
  · have := ltB_trans h h'; rw [ltB_irrefl] at this; cases this
theorem ltB_tri (a b : ByteArray) : ltB a b = true ∨ a = b ∨ ltB b a = true := by
  unfold ltB
  simp only [decide_eq_true_eq]
  rcases Classical.em (a.data.toList < b.data.toList) with h | h
  · exact .inl h
  · rcases Classical.em (b.data.toList < a.data.toList) with h' | h'
    · exact .inr (.inr h')
    · exact .inr (.inl (ba_inj (List.le_antisymm (List.not_lt.1 h') (List.not_lt.1 h))))
theorem leq_eq (a b : ByteArray) : (Op.bytesLess a.toList b.toList || a.toList == b.toList) = !ltB b a := by
  rw [less_eq, ba_eq]
  rcases ltB_tri a b with h | h | h
  · rw [h, ltB_asymm h]; rfl
  · subst h; rw [ltB_irrefl]; simp
  · rw [h, ltB_asymm h]
    simp
    rintro rfl
    rw [ltB_irrefl] at h; cases h
theorem ltB_ne {a b : ByteArray} (h : ltB a b = true) : a ≠ b := by rintro rfl; rw [ltB_irrefl] at h; cases h
end Go.Proofs.Ytdahgfopighhlaa
