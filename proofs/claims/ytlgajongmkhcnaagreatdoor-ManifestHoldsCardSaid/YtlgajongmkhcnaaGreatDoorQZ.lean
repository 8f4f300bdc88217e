import Derived.Below
import Derived.Lib.Hide
import Derived.Laws.World
set_option linter.unusedVariables false
set_option maxHeartbeats 32000000
namespace Go.Proofs
open Go.RowKit
theorem Z0 {p : Prop} (h : p) : Hid p := Lib.hid h
theorem Z1 (n : Nat) : n ≤ n := Nat.le_refl n
theorem Z2 {α : Type _} {l : List α} {i : Nat} {a : α} : l.getD i a = l[i]?.getD a := List.getD_eq_getElem?_getD
theorem Z3 {α : Type _} {l : List α} {i : Nat} (h : i < l.length) : l[i]? = some l[i] := List.getElem?_eq_getElem h
theorem Z4 {α : Type _} {l : List α} {n : Nat} (h : n < l.length) : l[n] ∈ l := List.getElem_mem h
theorem Z5 {α : Type _} {i : Nat} {b : α} {xs : Array α} : xs[i]? = some b ↔ ∃ h, xs[i] = b := Array.getElem?_eq_some_iff
theorem Z6 (w : World) (o : Obj) : (w.alloc o).heap.size = w.heap.size + 1 := World.size_alloc w o
theorem Z7 {α : Type _} {β : Type _} {xs : List α} (f : α → β) : (xs.map f).length = xs.length := List.length_map f
theorem Z8 {α : Type _} {i : Nat} {l : List α} (h : i < l.length) : l.take (i + 1) = l.take i ++ [l[i]] := List.take_succ_eq_append_getElem h
theorem Z9 (B : Nat) (w : World) : Below B w w := Below.refl B w
theorem ZA (w : World) (a : Addr) (u : Value) (k : Nat) (h : k ≠ a.block) : (w.setCell a u).heap[k]? = w.heap[k]? := Below.heap_setCell w a u k h
theorem ZB (w : World) (o : Obj) (k : Nat) (h : k < w.heap.size) : (w.alloc o).heap[k]? = w.heap[k]? := Below.heap_alloc w o k h
theorem ZC {α : Type _} {xs ys : List α} : (xs ++ ys).length = xs.length + ys.length := List.length_append
theorem ZD {α : Type _} {β : Type _} {f : α → β} {xs ys : List α} : (xs ++ ys).map f = xs.map f ++ ys.map f := List.map_append
theorem ZE (n : Nat) : 0 ≤ n := Nat.zero_le n
theorem ZF (a b : Bool) : ((a && b) = true) = (a = true ∧ b = true) := Bool.and_eq_true a b
theorem ZG {α : Type _} {a : α} {s t : List α} : a ∈ s ++ t ↔ a ∈ s ∨ a ∈ t := List.mem_append
theorem ZH {n m k : Nat} (h : n < m) (g : m ≤ k) : n < k := Nat.lt_of_lt_of_le h g
theorem ZI {α : Type _} {a b : α} : a ∈ [b] ↔ a = b := List.mem_singleton
end Go.Proofs
