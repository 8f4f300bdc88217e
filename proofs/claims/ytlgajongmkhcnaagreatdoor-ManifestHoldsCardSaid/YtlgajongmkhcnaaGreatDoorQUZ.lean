import Derived.Below
import Derived.Lib.Hide
import Derived.Laws.World
set_option linter.unusedVariables false
set_option maxHeartbeats 32000000
namespace Go.Proofs
open Go.RowKit
theorem Z0 {p : Prop} (h : p) : Hid p := Lib.hid h
theorem Z1 (n : Nat) : n ≤ n := Nat.le_refl n
theorem Z2 {α : Type _} {l : List α} {i : Nat} {a : α} : l.getD i a = l[i]?.getD a := List.getD_eq_getElem?_getD
theorem Z3 {α : Type _} {l : List α} {i : Nat} (h : i < l.length) : l[i]? = some l[i] := List.getElem?_eq_getElem h
theorem Z4 {α : Type _} {l : List α} {n : Nat} (h : n < l.length) : l[n] ∈ l := List.getElem_mem h
theorem Z5 {α : Type _} {i : Nat} {b : α} {xs : Array α} : xs[i]? = some b ↔ ∃ h, xs[i] = b := Array.getElem?_eq_some_iff
theorem Z6 (w : World) (o : Obj) : (w.alloc o).heap.size = w.heap.size + 1 := World.size_alloc w o
theorem Z7 {α : Type _} {β : Type _} {xs : List α} (f : α → β) : (xs.map f).length = xs.length := List.length_map f
theorem Z8 {α : Type _} {i : Nat} {l : List α} (h : i < l.length) : l.take (i + 1) = l.take i ++ [l[i]] := List.take_succ_eq_append_getElem h
theorem Z9 (B : Nat) (w : World) : Below B w w := Below.refl B w
theorem ZA (w : World) (a : Addr) (u : Value) (k : Nat) (h : k ≠ a.block) : (w.setCell a u).heap[k]? = w.heap[k]? := Below.heap_setCell w a u k h
theorem ZB (w : World) (o : Obj) (k : Nat) (h : k < w.heap.size) : (w.alloc o).heap[k]? = w.heap[k]? := Below.heap_alloc w o k h
theorem ZC {α : Type _} {xs ys : List α} : (xs ++ ys).length = xs.length + ys.length := List.length_append
theorem ZD {α : Type _} {β : Type _} {f : α → β} {xs ys : List α} : (xs ++ ys).map f = xs.map f ++ ys.map f := List.map_append
theorem ZE (n : Nat) : 0 ≤ n := Nat.zero_le n
theorem ZF (a b : Bool) : ((a && b) = true) = (a = true ∧ b = true) := Bool.and_eq_true a b
theorem ZG {α : Type _} {a : α} {s t : List α} : a ∈ s ++ t ↔ a ∈ s ∨ a ∈ t := List.mem_append
theorem ZH {n m k : Nat} (h : n < m) (g : m ≤ k) : n < k := Nat.lt_of_lt_of_le h g
theorem ZI {α : Type _} {a b : α} : a ∈ [b] ↔ a = b := List.mem_singleton
abbrev Kaa := @cell_of_row
abbrev Kab := @decide_eq_true_eq
abbrev Kac := @decide_eq_true
abbrev Kad := @decide_eq_false
abbrev Kae := @List.mem_map
abbrev Kaf := @List.mem_cons_self
abbrev Kag := @List.length_eq_zero_iff
abbrev Kah := @congrArg
abbrev Kai := @List.flatMap_append
abbrev Kaj := @List.mem_cons_of_mem
abbrev Kak := @World.cell?_of_block
abbrev Kal := @List.getElem?_map
abbrev Kam := @List.getElem?_eq_some_iff
abbrev Kan := @List.map_cons
abbrev Kao := @List.flatMap_cons
abbrev Kap := @Array.getElem?_modify
abbrev Kaq := @List.range_succ
abbrev Kar := @Int.toNat_natCast
abbrev Kas := @List.take_of_length_le
abbrev Kat := @List.take_length
abbrev Kau := @List.mem_iff_getElem
abbrev Kav := @Option.some.inj
abbrev Kaw := @Nat.le_trans
abbrev Kax := @List.length_take
abbrev Kay := @List.length_range
abbrev Kaz := @List.getElem?_append_right
abbrev Ka0 := @Nat.zero_add
abbrev Ka1 := @List.append_nil
abbrev Ka2 := @Nat.not_lt_zero
abbrev Ka3 := @Int.toNat_of_nonneg
abbrev Ka4 := @Nat.lt_succ_self
abbrev Ka5 := @List.mem_flatMap
abbrev Ka6 := @List.getElem?_append_left
abbrev Ka7 := @List.sum_cons
abbrev Ka8 := @List.mem_range
abbrev Ka9 := @List.length_cons
abbrev Kba := @List.getElem_map
abbrev Kbb := @World.ownsRow_nil
abbrev Kbc := @List.append_assoc
abbrev Kbd := @Nat.le_succ
abbrev Kbe := @List.map_nil
abbrev Kbf := @List.mem_cons
abbrev Kbg := @List.map_congr_left
abbrev Kbh := @List.mem_filter
abbrev Kbi := @Int.le_refl
abbrev Kbj := @World.frozen?_of_block
abbrev Kbk := @List.all_eq_true
abbrev Kbl := @List.getElem_append_left
abbrev Kbm := @Classical.em
abbrev Kbn := @Int.tmod_eq_emod_of_nonneg
abbrev Kbo := @List.sum_append
abbrev Kbp := @List.any_eq_true
abbrev Kbq := @List.filter_nil
abbrev Kbr := @Nat.le_add_right
abbrev Kbs := @List.foldl_append
abbrev Kbt := @List.pairwise_map
abbrev Kbu := @List.pairwise_cons
abbrev Kbv := @List.getElem_range
abbrev Kbw := @List.length_filter_le
abbrev Kbx := @List.getElem?_eq_none
abbrev Kby := @List.filter_cons_of_pos
abbrev Kbz := @List.filter_cons_of_neg
abbrev Kb0 := @List.filter_append
abbrev Kb1 := @List.pairwise_iff_getElem
abbrev Kb2 := @List.getElem?_range
abbrev Kb3 := @Nat.sub_self
abbrev Kb4 := @List.any_eq_false
abbrev Kb5 := @List.take_zero
abbrev Kb6 := @Classical.byContradiction
abbrev Kb7 := @List.getElem_append_right
abbrev Kb8 := @List.length_set
abbrev Kb9 := @Array.getElem?_toList
abbrev Kca := @List.nil_append
abbrev Kcb := @List.length_replicate
abbrev Kcc := @Bool.false_eq_true
abbrev Kcd := @List.getElem?_take_of_lt
abbrev Kce := @Int.natCast_nonneg
abbrev Kcf := @List.ext_getElem
abbrev Kcg := @List.mem_of_mem_take
abbrev Kch := @List.perm_ext_iff_of_nodup
abbrev Kci := @List.setIfInBounds_toArray
abbrev Kcj := @Nat.mod_lt
abbrev Kck := @List.mem_append_right
abbrev Kcl := @List.take_append_drop
abbrev Kcm := @Nat.mul_le_mul_right
abbrev Kcn := @List.mem_append_left
abbrev Kco := @List.getElem?_mapIdx
abbrev Kcp := @Nat.min_eq_left
abbrev Kcq := @Nat.add_mul
abbrev Kcr := @List.length_pos_iff
abbrev Kcs := @List.flatten_append
abbrev Kct := @List.flatMap_nil
abbrev Kcu := @Option.getD_some
abbrev Kcv := @Nat.mod_eq_of_lt
abbrev Kcw := @List.getElem?_set_self
abbrev Kcx := @Nat.add_sub_cancel
abbrev Kcy := @List.set_cons_zero
abbrev Kcz := @Bool.eq_iff_iff
abbrev Kc0 := @Nat.le_of_lt
abbrev Kc1 := @Nat.zero_mul
abbrev Kc2 := @List.set_append_right
abbrev Kc3 := @Int.natCast_add
abbrev Kc4 := @Array.getD_eq_getD_getElem?
abbrev Kc5 := @List.nodup_append
abbrev Kc6 := @List.mem_of_find?_eq_some
abbrev Kc7 := @List.drop_eq_getElem_cons
abbrev Kc8 := @Array.getElem?_eq_getElem
abbrev Kc9 := @List.cons_append
abbrev Kda := @List.not_mem_nil
abbrev Kdb := @Option.isSome_iff_exists
abbrev Kdc := @Nat.add_zero
abbrev Kdd := @List.map_map
abbrev Kde := @Int.le_trans
abbrev Kdf := @List.getElem?_cons_succ
abbrev Kdg := @Nat.lt_irrefl
abbrev Kdh := @List.set_cons_succ
abbrev Kdi := @Array.getElem?_eq_none
abbrev Kdj := @Nat.mul_one
abbrev Kdk := @Int.mul_nonneg
abbrev Kdl := @List.find?_eq_some_iff_getElem
abbrev Kdm := @List.eq_nil_iff_forall_not_mem
abbrev Kdn := @ByteArray.size_append
abbrev Kdo := @List.take_append_of_le_length
abbrev Kdp := @List.length_drop
abbrev Kdq := @List.mem_of_getElem?
end Go.Proofs
