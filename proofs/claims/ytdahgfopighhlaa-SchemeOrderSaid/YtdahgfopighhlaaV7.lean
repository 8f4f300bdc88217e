/-
  Plain laws of SchemeOrder.
-/
import Derived.Test.YtdahgfopighhlaaV5
namespace Go.Proofs.Ytdahgfopighhlaa
open Go.RowKit
set_option linter.unusedVariables false
set_option maxRecDepth 100000
def turnL (k : Nat) (cs : List ByteArray) : List ByteArray := cs.drop k ++ cs.take k
theorem turnL_len (k : Nat) (cs : List ByteArray) : (turnL k cs).length = cs.length := by unfold turnL; simp; omega
theorem mem_turnL {k : Nat} {cs : List ByteArray} {c : ByteArray} : c ∈ turnL k cs ↔ c ∈ cs := by
  unfold turnL
  rw [List.mem_append, Or.comm, ← List.mem_append, List.take_append_drop]
theorem turnL_get {k i : Nat} {cs : List ByteArray} (hk : k < cs.length) (hi : i < cs.length) : (turnL k cs)[i]'(by rw [turnL_len]; exact hi) = cs[(i + k) % cs.length]'(Nat.mod_lt _ (by omega)) := by
  have e : (turnL k cs)[i]? = cs[(i + k) % cs.length]? := by
    unfold turnL
    by_cases h : i < cs.length - k
    · rw [List.getElem?_append_left (by simpa using h), List.getElem?_drop, Nat.mod_eq_of_lt (by omega), Nat.add_comm]
    · have e2 : (i + k) % cs.length = i + k - cs.length := by
        rw [Nat.mod_eq_sub_mod (by omega), Nat.mod_eq_of_lt (by omega)]
      rw [List.getElem?_append_right (by simp; omega), e2, List.getElem?_take_of_lt (by simp; omega), List.length_drop]
      congr 1
      omega
  rw [List.getElem?_eq_getElem (by rw [turnL_len]; exact hi), List.getElem?_eq_getElem (Nat.mod_lt _ (by omega))] at e
  exact Option.some.inj e
theorem names_same {l : Lev} {cs cs' : List ByteArray} (h : ∀ c, c ∈ cs' ↔ c ∈ cs) : namesOf l cs' = namesOf l cs := by
  unfold namesOf
  refine strict_eq (strict_sortB _) (strict_sortB _) (fun s => ?_)
  rw [mem_sortB, mem_sortB, List.mem_map, List.mem_map]
  exact ⟨fun ⟨c, hc, e⟩ => ⟨c, (h c).1 hc, e⟩, fun ⟨c, hc, e⟩ => ⟨c, (h c).2 hc, e⟩⟩
theorem start_same {ls : List Lev} {cs cs' : List ByteArray} (h : ∀ c, c ∈ cs' ↔ c ∈ cs) : ∀ m, startOf ls cs' m = startOf ls cs m := by
  intro m
  induction m with
  | zero => rfl
  | succ m ih => unfold startOf nm; rw [ih, names_same h]
theorem itm_count (ls : List Lev) (cs : List ByteArray) (m : Nat) (n : ByteArray) : (itm ls cs m n).length = (cs.filter (fun c => decide (grpOf (lv ls m) c = n))).length := by
  have e : cs = (List.range cs.length).map (fun i => cs.getD i ⟨#[]⟩) := by
    refine List.ext_getElem? (fun i => ?_)
    rw [List.getElem?_map]
    by_cases hi : i < cs.length
    · rw [List.getElem?_range hi, List.getElem?_eq_getElem hi]
      simp [hi]
    · rw [List.getElem?_eq_none (by omega), List.getElem?_eq_none (by simp; omega)]
      rfl
  have e2 : (cs.filter (fun c => decide (grpOf (lv ls m) c = n))).length = (((List.range cs.length).map (fun i => cs.getD i ⟨#[]⟩)).filter (fun c => decide (grpOf (lv ls m) c = n))).length := by rw [← e]
  rw [e2, List.filter_map, List.length_map]
  unfold itm itemsTo
  rw [List.length_map]
  rfl
theorem count_turn (k : Nat) (cs : List ByteArray) (p : ByteArray → Bool) : ((turnL k cs).filter p).length = (cs.filter p).length := by
  unfold turnL
  rw [List.filter_append, List.length_append, Nat.add_comm, ← List.length_append, ← List.filter_append, List.take_append_drop]
def prs (ls : List Lev) (cs : List ByteArray) (k : Nat) : List (Nat × ByteArray) := (List.range k).flatMap (fun m => (nm ls cs m).map (fun n => (m, n)))
theorem gAll_prs (ls : List Lev) (cs : List ByteArray) (k : Nat) : gAll ls cs k = (prs ls cs k).map (fun p => gAt ls cs k p.1 p.2) := by
  unfold gAll prs
  rw [List.map_flatMap]
  congr 1
  funext m
  rw [List.map_map]
  rfl
theorem prs_same {ls : List Lev} {cs cs' : List ByteArray} (h : ∀ c, c ∈ cs' ↔ c ∈ cs) (k : Nat) : prs ls cs' k = prs ls cs k := by
  unfold prs nm
  congr 1
  funext m
  rw [names_same h]
theorem mem_prs {ls : List Lev} {cs : List ByteArray} {k : Nat} {p : Nat × ByteArray} (h : p ∈ prs ls cs k) : p.1 < k ∧ p.2 ∈ nm ls cs p.1 := by
  unfold prs at h
  simp only [List.mem_flatMap, List.mem_range, List.mem_map] at h
  obtain ⟨m, hm, n, hn, rfl⟩ := h
  exact ⟨hm, hn⟩
structure OrdAt (cs : List ByteArray) (k L : Nat) (a b : Grp) : Prop where
  name : a.name = b.name
  lvl : a.lvl = b.lvl
  up : a.up = b.up
  len : a.items.length = b.items.length
  few : a.items.length ≤ cs.length
  itemA : ∀ p (hp : p < a.items.length), ∃ q : Nat, q < cs.length ∧ a.items[p] = q
  itemB : ∀ p (hp : p < b.items.length), ∃ q : Nat, q < cs.length ∧ b.items[p] = q ∧ (((q + k) % cs.length : Nat) : Int) ∈ a.items
theorem order_pair {ls : List Lev} {cs : List ByteArray} {k : Nat} (h : rightB ls = true) (hc : ∀ c ∈ cs, codeB c = true) (hp : ∀ l ∈ ls, ∀ c ∈ cs, l.pre ≤ c.size) (hk : k < cs.length) {m : Nat} {n : ByteArray} (hm : m < ls.length) (hn : n ∈ nm ls cs m) : OrdAt cs k ls.length (gAt ls cs ls.length m n) (gAt ls (turnL k cs) ls.length m n) := by
  have hmem : ∀ c, c ∈ turnL k cs ↔ c ∈ cs := fun c => mem_turnL
  have hn' : n ∈ nm ls (turnL k cs) m := by unfold nm at hn ⊢; rw [names_same hmem]; exact hn
  refine ⟨rfl, rfl, ?_, ?_, itm_len ls cs m n, ?_, ?_⟩
  · unfold gAt
    dsimp only
    by_cases hm1 : m + 1 < ls.length
    · rw [if_pos hm1, if_pos hm1]
      unfold upOf
      rw [start_same hmem]
      have e1 : nm ls (turnL k cs) (m + 1) = nm ls cs (m + 1) := by unfold nm; rw [names_same hmem]
      rw [e1]
      obtain ⟨i, hi, h1, h2⟩ := headC_mem hn
      obtain ⟨j, hj, h3, h4⟩ := headC_mem hn'
      have hi' := List.getElem_mem hi
      have hj' := (hmem _).1 (List.getElem_mem hj)
      rw [h1, h3]
      rw [lv_get hm1]
      rw [lv_get hm] at h2 h4
      rw [path_nests h (hc _ hi') (hc _ hj') (fun l hl => hp l hl _ hi') (fun l hl => hp l hl _ hj') m hm1 (h2.trans h4.symm)]
    · rw [if_neg hm1, if_neg hm1]
  · show (itm ls cs m n).length = (itm ls (turnL k cs) m n).length
    rw [itm_count, itm_count, count_turn]
  · intro p hp'
    obtain ⟨q, hq, _, h2⟩ := mem_itm.1 (List.getElem_mem hp')
    exact ⟨q, hq, h2⟩
  · intro p hp'
    obtain ⟨q, hq, h1, h2⟩ := mem_itm.1 (List.getElem_mem hp')
    rw [turnL_len] at hq
    refine ⟨q, hq, h2, mem_itm.2 ⟨(q + k) % cs.length, Nat.mod_lt _ (by omega), ?_, rfl⟩⟩
    rw [← turnL_get hk hq]
    exact h1
theorem order_sum {ls : List Lev} {cs : List ByteArray} {k : Nat} (h : rightB ls = true) (hc : ∀ c ∈ cs, codeB c = true) (hp : ∀ l ∈ ls, ∀ c ∈ cs, l.pre ≤ c.size) (hk : k < cs.length ∨ cs = []) :
    ∃ ga gb, (gTo ls cs ls.length).1 = ga ∧ (gTo ls (turnL k cs) ls.length).1 = gb ∧ ga.length = gb.length ∧ ∀ i (hi : i < ga.length) (hi' : i < gb.length), OrdAt cs k ls.length ga[i] gb[i] := by
  have hmem : ∀ c, c ∈ turnL k cs ↔ c ∈ cs := fun c => mem_turnL
  refine ⟨_, _, by rw [gTo_closed ls cs ls.length (Nat.le_refl _)], by rw [gTo_closed ls _ ls.length (Nat.le_refl _)], ?_, ?_⟩
  · rw [gAll_prs, gAll_prs, prs_same hmem, List.length_map, List.length_map]
  · rw [gAll_prs, gAll_prs, prs_same hmem]
    intro i hi hi'
    rw [List.length_map] at hi
    rw [List.getElem_map, List.getElem_map]
    obtain ⟨h1, h2⟩ := mem_prs (List.getElem_mem hi)
    rcases hk with hk | rfl
    · exact order_pair h hc hp hk h1 h2
    · exfalso
      have : nm ls [] (prs ls [] ls.length)[i].1 = [] := rfl
      rw [this] at h2
      cases h2
end Go.Proofs.Ytdahgfopighhlaa
