/-
  Contract of letterbaglaw08.few; the walk of letterbaglaw08.LexAlone.
-/
import Derived.Test.YtenenmlgnifelaaDoorFp
import Derived.Test.YtenenmlgnifelaaDoorAw
namespace Go.Proofs.YtenenmlgnifelaaDoor
open Go.RowKit
set_option linter.unusedVariables false
def fewB (ls : List ByteArray) : Bool := ls.all (fun s => decide (s.size ≤ 1000)) && decide (ls.length ≤ 20)
theorem few_any (ls : List ByteArray) (v : Value) (w : World) (hr : ReadsT w v ls) (hl : ls.length ≤ maxLen) (hsz : ∀ s ∈ ls, s.size ≤ maxLen) :
    Calls Tryd.prog 10 #[v] w fun e w' => e = .returned (.bool (fewB ls)) ∧ w = w' := by
  obtain ⟨a, cap, rfl, hcl⟩ := hr
  have HC := Lib.hid hcl
  have HZ := Lib.hid hsz
  clear hcl hsz
  unfold maxLen at hl
  go_enter Tryd.func10, Tryd.ntmps10
  go_wp2_with fail
  go_loop [3] (fun i => ∃ k : Nat, k ≤ ls.length ∧ i = .int .i64 k ∧ Hid (∀ j (h : j < ls.length), j < k → ls[j].size ≤ 1000)) (fun i => ls.length - (intOf i).toNat)
  case atStart => exact ⟨0, Nat.zero_le _, rfl, fun j h h' => by omega⟩
  case round =>
    obtain ⟨k, hk, rfl, ha⟩ := hrel
    by_cases hlt : k < ls.length
    · obtain ⟨g, off, rfl, hg, hc⟩ := HC.out (by omega)
      have c1 := hc k hlt
      have hz := HZ.out _ (List.getElem_mem hlt)
      unfold maxLen at hz
      clear hc HC
      by_cases hbig : 1000 < ls[k].size
      · have hf : fewB ls = false := by
          unfold fewB
          rw [List.all_eq_false.2 ⟨_, List.getElem_mem hlt, by simp; omega⟩]; rfl
        have HF := Lib.hid hf
        clear hf
        go_wp2_with fail
        go_ret
        exact ⟨ret_bool HF.out.symm, rfl⟩
      · go_wp2_with fail
        go_round
        case rel => exact ⟨k + 1, by omega, by go_num, fun j hj hjk => by
          by_cases e : j = k
          · subst e; omega
          · exact ha j hj (by omega)⟩
        case measure => simp [intOf]; omega
    · obtain rfl : k = ls.length := by omega
      have hf : fewB ls = decide ((ls.length : Int) ≤ 20) := by
        unfold fewB
        rw [List.all_eq_true.2 (fun s hs => by
          obtain ⟨j, hj, rfl⟩ := List.mem_iff_getElem.1 hs
          exact decide_eq_true (ha j hj hj)), Bool.true_and, Bool.eq_iff_iff]
        simp; omega
      have HF := Lib.hid hf
      clear hf
      go_wp2_with fail
      go_ret
      exact ⟨ret_bool HF.out.symm, rfl⟩
theorem linesOf_more (ps : List (List UInt8)) (p : ByteArray) : linesOf (ps ++ [p.data.toList]) = linesOf ps ++ (if 0 < (foldL p).length then [⟨(foldL p).toArray⟩] else []) := by
  unfold linesOf
  rw [List.map_append, List.filter_append]
  congr 1
  simp only [List.map_cons, List.map_nil]
  rw [List.filter_cons, List.filter_nil]
  have e : (⟨(foldL ⟨p.data.toList.toArray⟩).toArray⟩ : ByteArray) = ⟨(foldL p).toArray⟩ := rfl
  have e2 : (⟨(foldL p).toArray⟩ : ByteArray).size = (foldL p).length := by show (foldL p).toArray.size = _; simp
  rw [e, e2]
  by_cases h : 0 < (foldL p).length <;> simp [h]
theorem join_N : ∀ ps : List (List UInt8), Lib.join ps [10] = joinN ps
  | [] => rfl
  | [x] => by rw [Lib.join_one]; rfl
  | x :: y :: r => by
    rw [Lib.join_cons]
    show x ++ Lib.joinTail [10] (y :: r) = x ++ 10 :: joinN (y :: r)
    rw [← join_N (y :: r), Lib.join_cons]
    simp [Lib.joinTail]
theorem joinN_len : ∀ ps : List (List UInt8), (∀ p ∈ ps, p.length ≤ 1000) → (joinN ps).length ≤ ps.length * 1001
  | [], _ => by simp [joinN]
  | [x], h => by have := h x (by simp); show x.length ≤ _; simp; omega
  | x :: y :: r, h => by
    have h1 := h x (by simp)
    have h2 := joinN_len (y :: r) (fun p hp => h p (List.mem_cons_of_mem _ hp))
    show (x ++ 10 :: joinN (y :: r)).length ≤ _
    simp only [List.length_append, List.length_cons] at h2 ⊢
    omega
/-- A slice reads as a list of texts, and has room for them. -/
def ReadsC (w : World) (v : Value) (ls : List ByteArray) : Prop :=
  ∃ a cap, v = .slice a ls.length cap ∧ ls.length ≤ cap ∧ (0 < ls.length → ∃ g off, a = some ⟨g, off, none⟩ ∧ g < w.heap.size ∧ ∀ i (h : i < ls.length), w.cell? ⟨g, off + i, none⟩ = some (.string ls[i]))
theorem ReadsC.reads {w : World} {v : Value} {ls : List ByteArray} (h : ReadsC w v ls) : ReadsT w v ls := by
  obtain ⟨a, cap, h1, _, h2⟩ := h
  exact ⟨a, cap, h1, h2⟩
theorem ReadsC.below {w w' : World} {v : Value} {ls : List ByteArray} (h : ReadsC w v ls) (hb : Below w.heap.size w w') : ReadsC w' v ls := by
  obtain ⟨a, cap, hv, hcap, hc⟩ := h
  exact ⟨a, cap, hv, hcap, fun h0 => by
    obtain ⟨g, off, ha, hg, hcc⟩ := hc h0
    exact ⟨g, off, ha, Nat.lt_of_lt_of_le hg hb.size, fun i h => (hb.cell (p := ⟨g, off + i, none⟩) hg).trans (hcc i h)⟩⟩
theorem join_ev (ls : List ByteArray) (hz : ∀ s ∈ ls, s.size ≤ 1000) (hl : ls.length ≤ 20) : ∃ j : ByteArray, j.data.toList = joinN (wl ls) ∧ j.size ≤ 60000 ∧
    ∀ v W, ReadsC W v ls → Calls Tryd.prog 25 #[v, .string ⟨#[10]⟩] W fun e w' => e = .returned (.string j) ∧ Below W.heap.size W w' := by
  have hlen := joinN_len (wl ls) (fun p hp => by
    obtain ⟨b, hb, rfl⟩ := List.mem_map.1 hp
    simpa using hz b hb)
  have hwl : (wl ls).length = ls.length := by simp [wl]
  rw [hwl] at hlen
  have hle : (joinN (wl ls)).length ≤ 20020 := by omega
  refine ⟨⟨(joinN (wl ls)).toArray⟩, rfl, by show (joinN (wl ls)).toArray.size ≤ _; simp; omega, ?_⟩
  rintro v W ⟨a, cap, rfl, hcap, hc⟩
  by_cases h0 : 0 < ls.length
  · obtain ⟨g, off, rfl, hg, hcc⟩ := hc h0
    have e : Lib.join (ls.map (·.data.toList)) (⟨#[10]⟩ : ByteArray).data.toList = joinN (wl ls) := join_N _
    refine (Tryd.strings_Join g off cap ls ⟨#[10]⟩ W (fun j x hx => ?_) hg (by omega) hcap (by rw [e]; omega)).mono ?_
    · obtain ⟨hj, rfl⟩ := List.getElem?_eq_some_iff.1 hx
      exact hcc j hj
    · rintro e' w' ⟨rfl, hb⟩
      exact ⟨by rw [e], hb⟩
  · obtain rfl : ls = [] := List.length_eq_zero_iff.1 (by omega)
    refine (Tryd.strings_Join_none a cap ⟨#[10]⟩ W).mono ?_
    rintro e w' ⟨rfl, rfl⟩
    exact ⟨rfl, Below.refl _ _⟩
theorem take_more (ls : List ByteArray) (k : Nat) (h : k < ls.length) : wl (ls.take (k + 1)) = wl (ls.take k) ++ [ls[k].data.toList] := by
  rw [List.take_succ_eq_append_getElem h, wl_snoc]
theorem linesOf_len (ps : List (List UInt8)) : (linesOf ps).length ≤ ps.length := by
  unfold linesOf
  exact Nat.le_trans (List.length_filter_le _ _) (by simp)
theorem foldGo_len (s : ByteArray) : ∀ n i out ap, out.length ≤ 2 * i + 2 * i → (foldGo s n i out ap).length ≤ 4 * (i + 2 * n) + 4 := by
  intro n
  induction n with
  | zero => intro i out ap h; rw [foldGo]; omega
  | succ n ih =>
    intro i out ap h
    rw [foldGo]
    have h2 := foldAt_two s i
    split
    · split
      · refine Nat.le_trans (ih _ _ _ (by omega)) (by omega)
      · refine Nat.le_trans (ih _ _ _ ?_) (by omega)
        simp only [List.length_append]
        have : (if ap = true ∧ out ≠ [] then [(32 : UInt8)] else []).length ≤ 1 := by split <;> simp
        omega
    · omega
theorem foldL_len (s : ByteArray) (h : s.size ≤ 1000) : (foldL s).length ≤ 8004 := by
  have := foldGo_len s s.size 0 [] false (by simp)
  unfold foldL
  omega
theorem contains_ev (s : ByteArray) (W : World) : Calls Tryd.prog 22 #[.string s, .string ⟨#[10]⟩] W fun e w' => e = .returned (.bool (decide ((10 : UInt8) ∈ s.data.toList))) ∧ W = w' := by
  refine (Tryd.strings_Contains_one s 10 W).mono ?_
  rintro e w' ⟨rfl, rfl⟩
  refine ⟨ret_bool ?_, rfl⟩
  rw [Bool.eq_iff_iff, decide_eq_true_eq, decide_eq_true_eq]
  constructor
  · intro h
    obtain ⟨i, hi⟩ : ∃ i : Nat, Lib.indexByte s.data.toList 10 = i := ⟨(Lib.indexByte s.data.toList 10).toNat, by omega⟩
    exact List.mem_of_getElem? (Lib.indexByte_some hi).1
  · intro h
    by_cases e : Lib.indexByte s.data.toList 10 = -1
    · obtain ⟨k, hk⟩ := List.mem_iff_getElem?.1 h
      exact absurd hk (Lib.indexByte_none e k)
    · have := Lib.indexByte_ge s.data.toList 10
      omega
end Go.Proofs.YtenenmlgnifelaaDoor
