/-
  Plain laws about the classes of a word, more.
-/
import Derived.Test.YtenenmlgnifelaaDoorLp
namespace Go.Proofs.YtenenmlgnifelaaDoor
set_option linter.unusedVariables false
theorem foldGo_kept (s : ByteArray) (h : ∀ c ∈ s.data.toList, keptB c.toNat = true) : ∀ n k, s.size ≤ k + n → k ≤ s.size → foldGo s n k (s.data.toList.take k) false = s.data.toList
  | 0, k, h1, h2 => by
    rw [foldGo, List.take_of_length_le (by simp; omega)]
  | n + 1, k, h1, h2 => by
    rw [foldGo]
    by_cases hk : k < s.size
    · have hb : byteAt s k = s[k] := byteAt_eq hk
      have hat : foldAt s k = ([s[k]], 1) := by unfold foldAt; rw [hb, if_pos (h _ (mem_get hk))]
      rw [if_pos hk, hat, if_neg (by simp)]
      have e : s.data.toList.take k ++ (if false = true ∧ s.data.toList.take k ≠ [] then [32] else []) ++ [s[k]] = s.data.toList.take (k + 1) := by
        rw [if_neg (by simp), List.append_nil, List.take_succ_eq_append_getElem (by simpa using hk)]; rfl
      simp only
      rw [e]
      exact foldGo_kept s h n (k + 1) (by omega) (by omega)
    · rw [if_neg hk, List.take_of_length_le (by simp; omega)]
theorem fold_kept (s : ByteArray) (h : ∀ c ∈ s.data.toList, keptB c.toNat = true) : foldL s = s.data.toList := by
  unfold foldL
  have := foldGo_kept s h s.size 0 (by omega) (by omega)
  simpa using this
theorem kept_digit {n : Int} (h : isDigit n = true) : keptB n = true := by unfold isDigit at h; unfold keptB; simp at h ⊢; omega
theorem kept_letter {n : Int} (h : isLetter n = true) : keptB n = true := by unfold isLetter at h; unfold keptB; simp at h ⊢; omega
theorem kept_flat {n : Int} (h : isFlat n = true) : keptB n = true := by
  unfold isFlat at h
  rw [Bool.or_eq_true] at h
  exact h.elim kept_letter kept_digit
theorem kept_name {n : Int} (h : isName n = true) : keptB n = true := by
  unfold isName at h
  rw [Bool.or_eq_true] at h
  rcases h with h | h
  · exact kept_flat h
  · unfold keptB; simp at h ⊢; omega
theorem foldl_zero (l : List UInt8) : ∀ (T : List (Nat × List UInt8 × List UInt8)) (acc : Nat), (∀ r ∈ T, ¬ (r.2.1 = l ∨ r.2.2 = l)) → T.foldl (kindsF l) acc = acc
  | [], _, _ => rfl
  | r :: T, acc, h => by
    rw [List.foldl_cons]
    have : kindsF l acc r = acc := by unfold kindsF; rw [if_neg (h r List.mem_cons_self)]
    rw [this]
    exact foldl_zero l T acc (fun r hr => h r (List.mem_cons_of_mem _ hr))
theorem table_kept : (tableL.all fun r => r.2.1.all (fun c => keptB c.toNat) && r.2.2.all (fun c => keptB c.toNat)) = true := by kernel_rfl
theorem kinds_kept {l : List UInt8} (h : kindsB l ≠ 0) : ∀ c ∈ l, keptB c.toNat = true := by
  have hex : ∃ r ∈ tableL, r.2.1 = l ∨ r.2.2 = l := by
    by_cases hh : ∃ r ∈ tableL, r.2.1 = l ∨ r.2.2 = l
    · exact hh
    · exact absurd (foldl_zero l tableL 0 (fun r hr hx => hh ⟨r, hr, hx⟩)) h
  obtain ⟨r, hr, hx⟩ := hex
  have := List.all_eq_true.1 table_kept r hr
  rw [Bool.and_eq_true] at this
  rcases hx with rfl | rfl
  · exact List.all_eq_true.1 this.1
  · exact List.all_eq_true.1 this.2
theorem kindOf_zero (k : Int) : kindOf 0 k = false := by unfold kindOf; simp
/-- A word with a class is folded. -/
theorem has_kept {s : ByteArray} {k : Nat} (h : hasB s k = true) : ∀ c ∈ s.data.toList, keptB c.toNat = true := by
  have hk : ∀ j, kindOf (kindsB s.data.toList) j = true → ∀ c ∈ s.data.toList, keptB c.toNat = true := fun j hj =>
    kinds_kept (fun e => by rw [e] at hj; have := kindOf_zero j; simp at hj this; rw [this] at hj; cases hj)
  have hmt : ∀ ks, matchesB s.data.toList ks = true → ∀ c ∈ s.data.toList, keptB c.toNat = true := fun ks hm c hc => kept_flat (matches_flat hm c hc)
  match k, h with
  | 0, h => exact fun c hc => kept_digit (number_digits h c hc)
  | 1, h => exact fun c hc => (lettered_bytes h c hc).elim kept_digit kept_letter
  | 2, h =>
    have h' : nameB s = true := h
    unfold nameB at h'
    rw [Bool.and_eq_true] at h'
    exact fun c hc => kept_name (List.all_eq_true.1 h'.1 c hc)
  | 3, h => exact hk 1 h
  | 4, h => exact hk 2 h
  | 5, h => exact hk 3 h
  | 6, h => exact hk 4 h
  | 7, h =>
    have h' : flatB s = true := h
    unfold flatB at h'
    rw [Bool.and_eq_true] at h'
    exact fun c hc => kept_flat (List.all_eq_true.1 h'.2 c hc)
  | 8, h => exact hmt _ h
  | 9, h => exact hmt _ h
  | 10, h => exact hmt _ h
  | 11, h => exact hmt _ h
  | 12, h => exact hmt _ h
  | 13, h => exact hmt _ h
  | k + 14, h => cases h
theorem classes_zero {s : ByteArray} (h : ∀ k, k < 14 → hasB s k = false) : ∀ n, n ≤ 14 → classesTo s n = 0
  | 0, _ => rfl
  | n + 1, hn => by rw [classesTo, classes_zero h n (by omega), h n (by omega)]; rfl
theorem right_or_zero (s : ByteArray) : (foldL s == s.data.toList) = true ∨ classesB s = 0 := by
  by_cases h : ∃ k, k < 14 ∧ hasB s k = true
  · obtain ⟨k, _, hk⟩ := h
    left; rw [fold_kept s (has_kept hk)]; simp
  · right
    exact classes_zero (fun k hk => by cases hh : hasB s k; · rfl
                                       · exact absurd ⟨k, hk, hh⟩ h) 14 (Nat.le_refl _)
/-- The codes that a word is. -/
def codesTo (s : ByteArray) : Nat → Nat
  | 0 => 0
  | k + 1 => codesTo s k + if hasB s (8 + k) then 1 else 0
def lensOf : Nat → List Bool
  | 8 => [true, true] | 9 => [false, false, false, false, false] | 10 => [true, false, true, false, true, false] | 11 => [true, false, true] | 12 => [false, true, false] | 13 => [false, false, false, false] | _ => []
theorem has_code {s : ByteArray} {k : Nat} (h8 : 8 ≤ k) (h13 : k ≤ 13) : hasB s k = matchesB s.data.toList (lensOf k) := by
  have : k = 8 ∨ k = 9 ∨ k = 10 ∨ k = 11 ∨ k = 12 ∨ k = 13 := by omega
  rcases this with rfl | rfl | rfl | rfl | rfl | rfl <;> rfl
theorem code_one {s : ByteArray} {j k : Nat} (hj : 8 ≤ j) (hj' : j ≤ 13) (hk : 8 ≤ k) (hk' : k ≤ 13) (h1 : hasB s j = true) (h2 : hasB s k = true) : j = k := by
  rw [has_code hj hj'] at h1
  rw [has_code hk hk'] at h2
  have e := (matches_len h1).symm.trans (matches_len h2)
  have a : j = 8 ∨ j = 9 ∨ j = 10 ∨ j = 11 ∨ j = 12 ∨ j = 13 := by omega
  have b : k = 8 ∨ k = 9 ∨ k = 10 ∨ k = 11 ∨ k = 12 ∨ k = 13 := by omega
  rcases a with rfl | rfl | rfl | rfl | rfl | rfl <;> rcases b with rfl | rfl | rfl | rfl | rfl | rfl <;> first | rfl | (exfalso; revert e; decide) | (exfalso; have := matches_head h1 h2; cases this)
theorem code_flat {s : ByteArray} {k : Nat} (hk : 8 ≤ k) (hk' : k ≤ 13) (h : hasB s k = true) : hasB s 7 = true := by
  rw [has_code hk hk'] at h
  have b : k = 8 ∨ k = 9 ∨ k = 10 ∨ k = 11 ∨ k = 12 ∨ k = 13 := by omega
  show flatB s = true
  rcases b with rfl | rfl | rfl | rfl | rfl | rfl <;> exact matches_flatB h (by decide) (by decide)
theorem codes_le (s : ByteArray) : ∀ n, n ≤ 6 → codesTo s n ≤ 1 ∧ (codesTo s n = 1 → ∃ k, 8 ≤ k ∧ k < 8 + n ∧ hasB s k = true)
  | 0, _ => ⟨by simp [codesTo], fun h => by simp [codesTo] at h⟩
  | n + 1, hn => by
    obtain ⟨h1, h2⟩ := codes_le s n (by omega)
    rw [codesTo]
    cases hh : hasB s (8 + n)
    · simp only [Bool.false_eq_true, if_false, Nat.add_zero]
      exact ⟨h1, fun e => by obtain ⟨k, a, b, c⟩ := h2 e; exact ⟨k, a, by omega, c⟩⟩
    · simp only [if_true]
      have h0 : codesTo s n = 0 := by
        by_cases e : codesTo s n = 1
        · obtain ⟨k, a, b, c⟩ := h2 e
          have := code_one a (by omega) (by omega) (by omega) c hh
          omega
        · omega
      exact ⟨by omega, fun _ => ⟨8 + n, by omega, by omega, hh⟩⟩
theorem valOf_pos {s : ByteArray} (h : numberB s = true) : ∀ k, 1 ≤ k → k ≤ s.size → 1 ≤ valOf (s.data.toList.take k)
  | 0, h1, _ => by omega
  | k + 1, _, hk => by
    have hd := (numberB_parts h).2.2 k (by omega)
    have hz := valOf_le h k (by omega)
    rw [valOf_succ s k (by omega)]
    by_cases e : k = 0
    · subst e
      have hh : head0 s = false := by
        unfold numberB at h
        simp only [Bool.and_eq_true, Bool.not_eq_true'] at h
        exact h.1.2
      rw [head0_eq s (by omega)] at hh
      simp at hh
      have : (s[0].toNat : Int) ≠ 48 := by omega
      simp [valOf]
      omega
    · have := valOf_pos h k (by omega) (by omega)
      omega
end Go.Proofs.YtenenmlgnifelaaDoor
