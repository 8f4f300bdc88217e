/-
  Groups in closed form.
-/
import Derived.Test.YtdahgfopighhlaaV2
namespace Go.Proofs.Ytdahgfopighhlaa
open Go.RowKit
set_option linter.unusedVariables false
set_option maxRecDepth 100000
def lv (ls : List Lev) (m : Nat) : Lev := ls.getD m ⟨⟨#[]⟩, 0, [], 0, 0⟩
theorem lv_get {ls : List Lev} {m : Nat} (h : m < ls.length) : lv ls m = ls[m] := by
  unfold lv; rw [List.getD_eq_getElem?_getD, List.getElem?_eq_getElem h]; rfl
def nm (ls : List Lev) (cs : List ByteArray) (m : Nat) : List ByteArray := namesOf (lv ls m) cs
def startOf (ls : List Lev) (cs : List ByteArray) : Nat → Nat
  | 0 => 0
  | m + 1 => startOf ls cs m + (nm ls cs m).length
def itm (ls : List Lev) (cs : List ByteArray) (m : Nat) (n : ByteArray) : List Int := itemsTo (lv ls m) cs cs.length n
/-- The code of a group's first item. -/
def headC (ls : List Lev) (cs : List ByteArray) (m : Nat) (n : ByteArray) : ByteArray := cs.getD ((itm ls cs m n).headD 0).toNat ⟨#[]⟩
def upOf (ls : List Lev) (cs : List ByteArray) (m : Nat) (n : ByteArray) : Nat := startOf ls cs (m + 1) + idx (grpOf (lv ls (m + 1)) (headC ls cs m n)) (nm ls cs (m + 1))
def gAt (ls : List Lev) (cs : List ByteArray) (k m : Nat) (n : ByteArray) : Grp := ⟨m, n, if m + 1 < k then (upOf ls cs m n : Int) else -1, itm ls cs m n⟩
def gAll (ls : List Lev) (cs : List ByteArray) (k : Nat) : List Grp := (List.range k).flatMap (fun m => (nm ls cs m).map (gAt ls cs k m))
theorem flat_len {α : Type} (f : Nat → List α) (s : Nat → Nat) (h0 : s 0 = 0) (hs : ∀ m, s (m + 1) = s m + (f m).length) : ∀ k, ((List.range k).flatMap f).length = s k := by
  intro k
  induction k with
  | zero => rw [h0]; rfl
  | succ k ih => rw [List.range_succ, List.flatMap_append, List.length_append, ih, hs]; simp
theorem flat_get {α : Type} (f : Nat → List α) (s : Nat → Nat) (h0 : s 0 = 0) (hs : ∀ m, s (m + 1) = s m + (f m).length) : ∀ k m j, m < k → j < (f m).length → ((List.range k).flatMap f)[s m + j]? = (f m)[j]? := by
  intro k
  induction k with
  | zero => intro m j h; omega
  | succ k ih =>
    intro m j hm hj
    have hl := flat_len f s h0 hs k
    rw [List.range_succ, List.flatMap_append]
    by_cases e : m = k
    · subst e
      rw [List.getElem?_append_right (by omega), hl]
      simp
    · have hlt : m < k := by omega
      have := ih m j hlt hj
      rw [List.getElem?_append_left]
      · exact this
      · rw [List.getElem?_eq_getElem hj] at this
        exact (List.getElem?_eq_some_iff.1 this).1
theorem gAll_len (ls : List Lev) (cs : List ByteArray) (k : Nat) : (gAll ls cs k).length = startOf ls cs k :=
  flat_len _ _ rfl (fun m => by simp [startOf]) k
theorem gAll_get (ls : List Lev) (cs : List ByteArray) (k m j : Nat) (hm : m < k) (hj : j < (nm ls cs m).length) : (gAll ls cs k)[startOf ls cs m + j]? = some (gAt ls cs k m (nm ls cs m)[j]) := by
  unfold gAll
  rw [flat_get (fun m => (nm ls cs m).map (gAt ls cs k m)) (startOf ls cs) rfl (fun m => by simp [startOf]) k m j hm (by simpa using hj)]
  simp [hj]
/-- The groups in closed form. -/
theorem gTo_closed (ls : List Lev) (cs : List ByteArray) : ∀ k, k ≤ ls.length → gTo ls cs k = (gAll ls cs k, startOf ls cs (k - 1), k) := by
  intro k
  induction k with
  | zero => intro _; rfl
  | succ k ih =>
    intro h
    rw [gTo_succ ls cs k h, ih (by omega)]
    unfold gStep
    simp only [Prod.mk.injEq, Nat.add_sub_cancel, and_true]
    refine ⟨?_, gAll_len ls cs k⟩
    rw [gAll_len, ← lv_get h]
    have e3 : (namesOf (lv ls k) cs).map (mkG k (lv ls k) cs) = (nm ls cs k).map (gAt ls cs (k + 1) k) := by
      refine List.map_congr_left (fun n _ => ?_)
      unfold mkG gAt itm
      rw [if_neg (by omega)]
    rw [e3]
    have e4 : gAll ls cs (k + 1) = ((List.range k).flatMap (fun m => (nm ls cs m).map (gAt ls cs (k + 1) m))) ++ (nm ls cs k).map (gAt ls cs (k + 1) k) := by
      unfold gAll
      rw [List.range_succ, List.flatMap_append]
      simp
    rw [e4]
    congr 1
    cases k with
    | zero => rfl
    | succ j =>
      simp only [Nat.add_sub_cancel]
      have e5 : gAll ls cs (j + 1) = ((List.range j).flatMap (fun m => (nm ls cs m).map (gAt ls cs (j + 1) m))) ++ (nm ls cs j).map (gAt ls cs (j + 1) j) := by
        unfold gAll
        rw [List.range_succ, List.flatMap_append]
        simp
      have hl : ((List.range j).flatMap (fun m => (nm ls cs m).map (gAt ls cs (j + 1) m))).length = startOf ls cs j := flat_len _ _ rfl (fun m => by simp [startOf]) j
      rw [e5, List.take_append_of_le_length (by omega), List.drop_append_of_le_length (by omega), List.take_of_length_le (by omega), List.drop_eq_nil_of_le (by omega), List.nil_append, List.range_succ, List.flatMap_append, List.map_map]
      have e6 : (List.range j).flatMap (fun m => (nm ls cs m).map (gAt ls cs (j + 1) m)) = (List.range j).flatMap (fun m => (nm ls cs m).map (gAt ls cs (j + 1 + 1) m)) := by
        rw [List.flatMap_def, List.flatMap_def]
        congr 1
        refine List.map_congr_left (fun m hm => List.map_congr_left (fun n _ => ?_))
        have := List.mem_range.1 hm
        unfold gAt
        rw [if_pos (by omega), if_pos (by omega)]
      rw [e6]
      congr 1
      simp only [List.flatMap_cons, List.flatMap_nil, List.append_nil]
      refine List.map_congr_left (fun n _ => ?_)
      unfold gAt upTo upOf headC nm
      simp
theorem mem_gAll {ls : List Lev} {cs : List ByteArray} {k : Nat} {g : Grp} : g ∈ gAll ls cs k ↔ ∃ m n, m < k ∧ n ∈ nm ls cs m ∧ g = gAt ls cs k m n := by
  unfold gAll
  simp only [List.mem_flatMap, List.mem_range, List.mem_map]
  exact ⟨fun ⟨m, hm, n, hn, he⟩ => ⟨m, n, hm, hn, he.symm⟩, fun ⟨m, n, hm, hn, he⟩ => ⟨m, hm, n, hn, he.symm⟩⟩
/-- Groups are in order. -/
theorem gAll_order (ls : List Lev) (cs : List ByteArray) (k : Nat) : (gAll ls cs k).Pairwise (fun g h => g.lvl < h.lvl ∨ g.lvl = h.lvl ∧ ltB g.name h.name = true) := by
  unfold gAll
  rw [List.pairwise_flatMap]
  refine ⟨fun m _ => ?_, ?_⟩
  · rw [List.pairwise_map]
    refine List.Pairwise.imp ?_ (strict_sortB (cs.map (grpOf (lv ls m))))
    intro a b h
    exact Or.inr ⟨rfl, h⟩
  · refine List.Pairwise.imp ?_ List.pairwise_lt_range
    intro a b hab x hx y hy
    obtain ⟨n, _, rfl⟩ := List.mem_map.1 hx
    obtain ⟨n', _, rfl⟩ := List.mem_map.1 hy
    left
    show (a : Int) < (b : Int)
    omega
/-- A group's items are its codes. -/
theorem mem_itm {ls : List Lev} {cs : List ByteArray} {m : Nat} {n : ByteArray} {x : Int} : x ∈ itm ls cs m n ↔ ∃ i : Nat, ∃ h : i < cs.length, grpOf (lv ls m) cs[i] = n ∧ x = i := by
  unfold itm
  rw [mem_itemsTo]
  constructor
  · rintro ⟨i, hi, he, rfl⟩
    refine ⟨i, hi, ?_, rfl⟩
    rw [List.getD_eq_getElem?_getD, List.getElem?_eq_getElem hi] at he
    exact he
  · rintro ⟨i, hi, he, rfl⟩
    refine ⟨i, hi, ?_, rfl⟩
    rw [List.getD_eq_getElem?_getD, List.getElem?_eq_getElem hi]
    exact he
theorem itm_order (ls : List Lev) (cs : List ByteArray) (m : Nat) (n : ByteArray) : (itm ls cs m n).Pairwise (· < ·) := by
  unfold itm itemsTo
  rw [List.pairwise_map]
  refine List.Pairwise.imp ?_ (List.Pairwise.filter _ List.pairwise_lt_range)
  intro a b h
  exact Int.ofNat_lt.2 h
theorem itm_some {ls : List Lev} {cs : List ByteArray} {m : Nat} {n : ByteArray} (h : n ∈ nm ls cs m) : itm ls cs m n ≠ [] := ((names_keys (lv ls m) cs).2 n).1 h
theorem nm_of {ls : List Lev} {cs : List ByteArray} {m i : Nat} (h : i < cs.length) : grpOf (lv ls m) cs[i] ∈ nm ls cs m := by
  unfold nm namesOf
  rw [mem_sortB]
  exact List.mem_map.2 ⟨_, List.getElem_mem h, rfl⟩
theorem headC_mem {ls : List Lev} {cs : List ByteArray} {m : Nat} {n : ByteArray} (h : n ∈ nm ls cs m) : ∃ i : Nat, ∃ hi : i < cs.length, headC ls cs m n = cs[i] ∧ grpOf (lv ls m) cs[i] = n := by
  cases he : itm ls cs m n with
  | nil => exact absurd he (itm_some h)
  | cons x r =>
    have hx : x ∈ itm ls cs m n := by rw [he]; exact List.mem_cons_self
    obtain ⟨i, hi, h1, rfl⟩ := mem_itm.1 hx
    refine ⟨i, hi, ?_, h1⟩
    unfold headC
    rw [he]
    simp [hi]
end Go.Proofs.Ytdahgfopighhlaa
