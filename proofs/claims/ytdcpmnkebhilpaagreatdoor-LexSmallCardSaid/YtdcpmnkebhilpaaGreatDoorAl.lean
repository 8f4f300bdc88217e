/-
  Contract of letterbaglaw08.few; the walk of letterbaglaw08.LexAlone.
-/
import Derived.Test.YtdcpmnkebhilpaaGreatDoorFp
import Derived.Test.YtdcpmnkebhilpaaGreatDoorAw
namespace Go.Proofs.YtdcpmnkebhilpaaGreatDoor
open Go.RowKit
set_option linter.unusedVariables false
theorem linesOf_more (ps : List (List UInt8)) (p : ByteArray) : linesOf (ps ++ [p.data.toList]) = linesOf ps ++ (if 0 < (foldL p).length then [⟨(foldL p).toArray⟩] else []) := by
  unfold linesOf
  rw [List.map_append, List.filter_append]
  congr 1
  simp only [List.map_cons, List.map_nil]
  rw [List.filter_cons, List.filter_nil]
  have e : (⟨(foldL ⟨p.data.toList.toArray⟩).toArray⟩ : ByteArray) = ⟨(foldL p).toArray⟩ := rfl
  have e2 : (⟨(foldL p).toArray⟩ : ByteArray).size = (foldL p).length := by show (foldL p).toArray.size = _; simp
  rw [e, e2]
  by_cases h : 0 < (foldL p).length <;> simp [h]
theorem join_N : ∀ ps : List (List UInt8), Lib.join ps [10] = joinN ps
  | [] => rfl
  | [x] => by rw [Lib.join_one]; rfl
  | x :: y :: r => by
    rw [Lib.join_cons]
    show x ++ Lib.joinTail [10] (y :: r) = x ++ 10 :: joinN (y :: r)
    rw [← join_N (y :: r), Lib.join_cons]
    simp [Lib.joinTail]
theorem joinN_len : ∀ ps : List (List UInt8), (∀ p ∈ ps, p.length ≤ 1000) → (joinN ps).length ≤ ps.length * 1001
  | [], _ => by simp [joinN]
  | [x], h => by have := h x (by simp); show x.length ≤ _; simp; omega
  | x :: y :: r, h => by
    have h1 := h x (by simp)
    have h2 := joinN_len (y :: r) (fun p hp => h p (List.mem_cons_of_mem _ hp))
    show (x ++ 10 :: joinN (y :: r)).length ≤ _
    simp only [List.length_append, List.length_cons] at h2 ⊢
    omega
def ReadsC (w : World) (v : Value) (ls : List ByteArray) : Prop :=
  ∃ a cap, v = .slice a ls.length cap ∧ ls.length ≤ cap ∧ (0 < ls.length → ∃ g off, a = some ⟨g, off, none⟩ ∧ g < w.heap.size ∧ ∀ i (h : i < ls.length), w.cell? ⟨g, off + i, none⟩ = some (.string ls[i]))
theorem join_ev (ls : List ByteArray) (hz : ∀ s ∈ ls, s.size ≤ 1000) (hl : ls.length ≤ 20) : ∃ j : ByteArray, j.data.toList = joinN (wl ls) ∧ j.size ≤ 60000 ∧
    ∀ v W, ReadsC W v ls → Calls Tryz.prog 31 #[v, .string ⟨#[10]⟩] W fun e w' => e = .returned (.string j) ∧ Below W.heap.size W w' := by
  have hlen := joinN_len (wl ls) (fun p hp => by
    obtain ⟨b, hb, rfl⟩ := List.mem_map.1 hp
    simpa using hz b hb)
  have hwl : (wl ls).length = ls.length := by simp [wl]
  rw [hwl] at hlen
  have hle : (joinN (wl ls)).length ≤ 20020 := by omega
  refine ⟨⟨(joinN (wl ls)).toArray⟩, rfl, by show (joinN (wl ls)).toArray.size ≤ _; simp; omega, ?_⟩
  rintro v W ⟨a, cap, rfl, hcap, hc⟩
  by_cases h0 : 0 < ls.length
  · obtain ⟨g, off, rfl, hg, hcc⟩ := hc h0
    have e : Lib.join (ls.map (·.data.toList)) (⟨#[10]⟩ : ByteArray).data.toList = joinN (wl ls) := join_N _
    refine (Tryz.strings_Join g off cap ls ⟨#[10]⟩ W (fun j x hx => ?_) hg (by omega) hcap (by rw [e]; omega)).mono ?_
    · obtain ⟨hj, rfl⟩ := List.getElem?_eq_some_iff.1 hx
      exact hcc j hj
    · rintro e' w' ⟨rfl, hb⟩
      exact ⟨by rw [e], hb⟩
  · obtain rfl : ls = [] := List.length_eq_zero_iff.1 (by omega)
    refine (Tryz.strings_Join_none a cap ⟨#[10]⟩ W).mono ?_
    rintro e w' ⟨rfl, rfl⟩
    exact ⟨rfl, Below.refl _ _⟩
theorem linesOf_len (ps : List (List UInt8)) : (linesOf ps).length ≤ ps.length := by
  unfold linesOf
  exact Nat.le_trans (List.length_filter_le _ _) (by simp)
theorem foldGo_len (s : ByteArray) : ∀ n i out ap, out.length ≤ 2 * i + 2 * i → (foldGo s n i out ap).length ≤ 4 * (i + 2 * n) + 4 := by
  intro n
  induction n with
  | zero => intro i out ap h; rw [foldGo]; omega
  | succ n ih =>
    intro i out ap h
    rw [foldGo]
    have h2 := foldAt_two s i
    split
    · split
      · refine Nat.le_trans (ih _ _ _ (by omega)) (by omega)
      · refine Nat.le_trans (ih _ _ _ ?_) (by omega)
        simp only [List.length_append]
        have : (if ap = true ∧ out ≠ [] then [(32 : UInt8)] else []).length ≤ 1 := by split <;> simp
        omega
    · omega
theorem foldL_len (s : ByteArray) (h : s.size ≤ 1000) : (foldL s).length ≤ 8004 := by
  have := foldGo_len s s.size 0 [] false (by simp)
  unfold foldL
  omega
end Go.Proofs.YtdcpmnkebhilpaaGreatDoor
