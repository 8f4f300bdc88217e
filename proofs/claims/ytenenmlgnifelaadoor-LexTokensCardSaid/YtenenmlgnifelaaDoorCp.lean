/-
  Plain laws about the codes of countries.
-/
import Derived.Test.YtenenmlgnifelaaDoorLp2
import Derived.Lib.Replace
import Derived.Lib.CountLaws
namespace Go.Proofs.YtenenmlgnifelaaDoor
set_option linter.unusedVariables false
/-- The kinds of the bytes of a country's code. -/
def patOf (k : Nat) : List Bool := if k = 1 then [false, false, false, false, false] else if k = 2 then [true, false, true, false, true, false] else [false, false, false, false]
theorem byte_at_index {l : List UInt8} {i : Nat} {c : UInt8} (h : l[i]? = some c) : l = l.take i ++ c :: l.drop (i + 1) := by
  obtain ⟨hi, he⟩ := List.getElem?_eq_some_iff.1 h
  rw [← he, ← List.drop_eq_getElem_cons hi, List.take_append_drop]
theorem cut_cases (s : ByteArray) : ((cutB s).2.2 = false ∧ (32 : UInt8) ∉ s.data.toList) ∨ ((cutB s).2.2 = true ∧ s.data.toList = (cutB s).1.data.toList ++ 32 :: (cutB s).2.1.data.toList) := by
  unfold cutB
  by_cases hix : Lib.indexByte s.data.toList 32 = -1
  · rw [if_pos hix]
    left
    refine ⟨rfl, fun h => ?_⟩
    obtain ⟨k, hk⟩ := List.mem_iff_getElem?.1 h
    exact Lib.indexByte_none hix k hk
  · rw [if_neg hix]
    right
    refine ⟨rfl, ?_⟩
    obtain ⟨i, hi⟩ : ∃ i : Nat, Lib.indexByte s.data.toList 32 = i := ⟨(Lib.indexByte s.data.toList 32).toNat, by have := Lib.indexByte_ge s.data.toList 32; omega⟩
    rw [hi, Int.toNat_natCast]
    simp only
    rw [ByteArray.data_extract, ByteArray.data_extract, Array.toList_extract, Array.toList_extract, List.extract_eq_take_drop, List.extract_eq_take_drop]
    have e := byte_at_index (Lib.indexByte_some hi).1
    have hl : (s.data.toList.drop (i + 1)).take (s.size - (i + 1)) = s.data.toList.drop (i + 1) := List.take_of_length_le (by simp)
    rw [hl]
    simpa using e
theorem flat_no_blank : isFlat (((32 : UInt8).toNat : Nat) : Int) = false := by decide
theorem matches_no_blank {l : List UInt8} {ks : List Bool} (h : matchesB l ks = true) : (32 : UInt8) ∉ l := fun hm => by
  have := matches_flat h 32 hm
  rw [flat_no_blank] at this; cases this
theorem matches_app : ∀ {a b : List UInt8} {ks js : List Bool}, matchesB a ks = true → matchesB b js = true → matchesB (a ++ b) (ks ++ js) = true
  | [], b, [], js, _, h => h
  | [], _, _ :: _, _, h, _ => by cases h
  | _ :: _, _, [], _, h, _ => by cases h
  | c :: a, b, k :: ks, js, h, h' => by
    rw [matchesB, Bool.and_eq_true] at h
    show matchesB (c :: (a ++ b)) (k :: (ks ++ js)) = true
    rw [matchesB, Bool.and_eq_true]
    exact ⟨h.1, matches_app h.2 h'⟩
/-- A text of three letters and digits, a blank and three more has seven bytes. -/
theorem cut_len {s : ByteArray} (h : (cutB s).2.2 = true) (h1 : hasB (cutB s).1 11 = true) (h2 : hasB (cutB s).2.1 12 = true) : s.size = 7 := by
  rcases cut_cases s with ⟨h', _⟩ | ⟨_, e⟩
  · rw [h] at h'; cases h'
  · have a := matches_len h1
    have b := matches_len h2
    have := congrArg List.length e
    simp at this a b
    omega
theorem code_simple {k : Nat} (hk : k = 1 ∨ k = 2 ∨ k = 3) {s : ByteArray} (h : s.size ≠ 7 ∨ (32 : UInt8) ∉ s.data.toList) :
    codeR (k : Int) s = if matchesB s.data.toList (patOf k) then (s.data.toList, true) else ([], false) := by
  rcases hk with rfl | rfl | rfl
  · rfl
  · have hno : ¬ ((cutB s).2.2 = true ∧ hasB (cutB s).1 11 = true ∧ hasB (cutB s).2.1 12 = true) := fun ⟨a, b, c⟩ => by
      rcases h with h | h
      · exact h (cut_len a b c)
      · rcases cut_cases s with ⟨h', _⟩ | ⟨_, e⟩
        · rw [a] at h'; cases h'
        · apply h; rw [e]; simp
    show (if (cutB s).2.2 = true ∧ hasB (cutB s).1 11 = true ∧ hasB (cutB s).2.1 12 = true then _ else _) = _
    rw [if_neg hno]
    rfl
  · rfl
theorem filter_self {l : List UInt8} (h : (32 : UInt8) ∉ l) : l.filter (fun c => decide (c ≠ 32)) = l := by
  rw [List.filter_eq_self]
  intro c hc
  simp only [decide_eq_true_eq]
  rintro rfl
  exact h hc
theorem code_cases (k : Int) (s : ByteArray) : codeR k s = ([], false) ∨ ∃ j : Nat, k = j ∧ (j = 1 ∨ j = 2 ∨ j = 3) ∧ codeR k s = (s.data.toList.filter (fun c => decide (c ≠ 32)), true) ∧ matchesB (s.data.toList.filter (fun c => decide (c ≠ 32))) (patOf j) = true := by
  have key : ∀ j : Nat, (j = 1 ∨ j = 2 ∨ j = 3) → k = j → matchesB s.data.toList (patOf j) = true → codeR k s = (s.data.toList, true) → ∃ j : Nat, k = j ∧ (j = 1 ∨ j = 2 ∨ j = 3) ∧ codeR k s = (s.data.toList.filter (fun c => decide (c ≠ 32)), true) ∧ matchesB (s.data.toList.filter (fun c => decide (c ≠ 32))) (patOf j) = true :=
    fun j hj hk hm hc => ⟨j, hk, hj, by rw [filter_self (matches_no_blank hm)]; exact hc, by rw [filter_self (matches_no_blank hm)]; exact hm⟩
  by_cases h1 : k = 1
  · subst h1
    have e := code_simple (k := 1) (.inl rfl) (s := s)
    cases hm : matchesB s.data.toList (patOf 1)
    · left
      show (if hasB s 9 then _ else _) = _
      rw [show hasB s 9 = false from hm]; rfl
    · right
      refine key 1 (.inl rfl) rfl hm ?_
      show (if hasB s 9 then _ else _) = _
      rw [show hasB s 9 = true from hm]; rfl
  by_cases h3 : k = 3
  · subst h3
    cases hm : matchesB s.data.toList (patOf 3)
    · left
      show (if hasB s 13 then _ else _) = _
      rw [show hasB s 13 = false from hm]; rfl
    · right
      refine key 3 (.inr (.inr rfl)) rfl hm ?_
      show (if hasB s 13 then _ else _) = _
      rw [show hasB s 13 = true from hm]; rfl
  by_cases h2 : k = 2
  · subst h2
    by_cases hc : (cutB s).2.2 = true ∧ hasB (cutB s).1 11 = true ∧ hasB (cutB s).2.1 12 = true
    · right
      have e0 : codeR 2 s = ((cutB s).1.data.toList ++ (cutB s).2.1.data.toList, true) := by
        show (if (cutB s).2.2 = true ∧ hasB (cutB s).1 11 = true ∧ hasB (cutB s).2.1 12 = true then _ else _) = _
        rw [if_pos hc]
      obtain ⟨a, b, c⟩ := hc
      rcases cut_cases s with ⟨h', _⟩ | ⟨_, e⟩
      · rw [a] at h'; cases h'
      · have hf : s.data.toList.filter (fun c => decide (c ≠ 32)) = (cutB s).1.data.toList ++ (cutB s).2.1.data.toList := by
          have e1 := filter_self (matches_no_blank b)
          have e2 := filter_self (matches_no_blank c)
          rw [e, List.filter_append, List.filter_cons, e1, e2]
          simp
        refine ⟨2, rfl, .inr (.inl rfl), by rw [hf]; exact e0, ?_⟩
        rw [hf]
        exact matches_app (ks := [true, false, true]) (js := [false, true, false]) b c
    · have e0 : codeR 2 s = if hasB s 10 then (s.data.toList, true) else ([], false) := by
        show (if (cutB s).2.2 = true ∧ hasB (cutB s).1 11 = true ∧ hasB (cutB s).2.1 12 = true then _ else _) = _
        rw [if_neg hc]
      cases hm : matchesB s.data.toList (patOf 2)
      · left
        rw [e0, show hasB s 10 = false from hm]; rfl
      · right
        refine key 2 (.inr (.inl rfl)) rfl hm ?_
        rw [e0, show hasB s 10 = true from hm]; rfl
  · left
    unfold codeR
    rw [if_neg h1, if_neg h2, if_neg h3]
theorem pat_len {j k : Nat} (hj : j = 1 ∨ j = 2 ∨ j = 3) (hk : k = 1 ∨ k = 2 ∨ k = 3) (h : (patOf j).length = (patOf k).length) : j = k := by
  rcases hj with rfl | rfl | rfl <;> rcases hk with rfl | rfl | rfl <;> first | rfl | (revert h; decide)
/-- How many of the first countries a text is a code of. -/
def cntTo (s : ByteArray) : Nat → Nat
  | 0 => 0
  | k + 1 => cntTo s k + if (codeR (k : Int) s).2 then 1 else 0
theorem code_uniq {s : ByteArray} {j k : Nat} (hj : (codeR (j : Int) s).2 = true) (hk : (codeR (k : Int) s).2 = true) : j = k := by
  rcases code_cases j s with e | ⟨a, ea, ha, _, ma⟩
  · rw [e] at hj; cases hj
  · rcases code_cases k s with e | ⟨b, eb, hb, _, mb⟩
    · rw [e] at hk; cases hk
    · have := pat_len ha hb ((matches_len ma).symm.trans (matches_len mb))
      omega
theorem cnt_le (s : ByteArray) : ∀ n, cntTo s n ≤ 1 ∧ (cntTo s n = 1 → ∃ k, k < n ∧ (codeR (k : Int) s).2 = true)
  | 0 => ⟨by simp [cntTo], fun h => by simp [cntTo] at h⟩
  | n + 1 => by
    obtain ⟨h1, h2⟩ := cnt_le s n
    rw [cntTo]
    cases hh : (codeR (n : Int) s).2
    · simp only [Bool.false_eq_true, if_false, Nat.add_zero]
      exact ⟨h1, fun e => by obtain ⟨k, a, b⟩ := h2 e; exact ⟨k, by omega, b⟩⟩
    · simp only [if_true]
      have h0 : cntTo s n = 0 := by
        by_cases e : cntTo s n = 1
        · obtain ⟨k, a, b⟩ := h2 e
          have := code_uniq b hh
          omega
        · omega
      exact ⟨by omega, fun _ => ⟨n, by omega, hh⟩⟩
theorem matches_set : ∀ {l : List UInt8} {ks : List Bool} (i : Nat) (c : UInt8), matchesB l ks = true → i < l.length → matchesB (l.set i c) ks = kindB (ks.getD i true) c.toNat
  | [], _, i, c, _, h => by simp at h
  | _ :: _, [], i, c, h, _ => by cases h
  | d :: l, k :: ks, 0, c, h, _ => by
    rw [matchesB, Bool.and_eq_true] at h
    show matchesB (c :: l) (k :: ks) = _
    rw [matchesB, h.2]; simp
  | d :: l, k :: ks, i + 1, c, h, hi => by
    rw [matchesB, Bool.and_eq_true] at h
    show matchesB (d :: l.set i c) (k :: ks) = _
    rw [matchesB, h.1, matches_set i c h.2 (by simpa using hi)]
    simp
theorem matches_at : ∀ {l : List UInt8} {ks : List Bool} (i : Nat), matchesB l ks = true → i < l.length → kindB (ks.getD i true) (l.getD i 0).toNat = true
  | [], _, i, _, h => by simp at h
  | _ :: _, [], i, h, _ => by cases h
  | d :: l, k :: ks, 0, h, _ => by
    rw [matchesB, Bool.and_eq_true] at h
    simpa using h.1
  | d :: l, k :: ks, i + 1, h, hi => by
    rw [matchesB, Bool.and_eq_true] at h
    simpa using matches_at i h.2 (by simpa using hi)
/-- A byte of the same sort as another one. -/
def sameSort (d c : UInt8) : Bool := (isDigit (d.toNat : Int) && isDigit (c.toNat : Int)) || (!isDigit (d.toNat : Int) && isLetter (c.toNat : Int))
theorem kind_sort {k : Bool} {d c : UInt8} (h : kindB k d.toNat = true) : kindB k c.toNat = sameSort d c := by
  unfold kindB at h ⊢
  unfold sameSort
  cases k
  · simp only [Bool.false_eq_true, if_false] at h ⊢
    rw [h]; simp
  · simp only [if_true] at h ⊢
    have hd : isDigit (d.toNat : Int) = false := by
      cases hd : isDigit (d.toNat : Int)
      · rfl
      · have := digit_not_letter hd; rw [h] at this; cases this
    rw [hd]; simp
theorem replaceK_blank : ∀ (n : Nat) (s : List UInt8), s.length ≤ n → Lib.replaceK [32] [] (Lib.count s [32]) s = s.filter (fun c => decide (c ≠ 32)) := by
  intro n
  induction n with
  | zero =>
    intro s h
    obtain rfl : s = [] := List.length_eq_zero_iff.1 (by omega)
    rfl
  | succ n ih =>
    intro s h
    by_cases hm : Lib.index s [32] = -1
    · rw [Lib.count_miss hm, Lib.replaceK]
      refine (filter_self fun hmem => ?_).symm
      rw [Lib.index_one] at hm
      obtain ⟨k, hk⟩ := List.mem_iff_getElem?.1 hmem
      exact Lib.indexByte_none hm k hk
    · obtain ⟨i, hi⟩ : ∃ i : Nat, Lib.index s [32] = i := ⟨(Lib.index s [32]).toNat, by have := Lib.index_ge s [32]; omega⟩
      have hj := hi
      rw [Lib.index_one] at hj
      obtain ⟨hb, hno⟩ := Lib.indexByte_some hj
      have hlt := (List.getElem?_eq_some_iff.1 hb).1
      rw [Lib.count_hit (by simp) hi, Nat.add_comm, Lib.replaceK_hit _ _ _ _ i hi]
      simp only [List.length_singleton, List.append_nil]
      rw [ih _ (by simp; omega)]
      have e := byte_at_index hb
      have ht : (s.take i).filter (fun c => decide (c ≠ 32)) = s.take i := filter_self fun hmem => by
        obtain ⟨k, hk, he⟩ := List.mem_take_iff_getElem.1 hmem
        exact hno k (by omega) (by rw [List.getElem?_eq_getElem (by omega), he])
      conv => rhs; rw [e, List.filter_append, List.filter_cons, ht]
      simp
theorem replace_blank (s : List UInt8) : Lib.replaceAll s [32] [] = s.filter (fun c => decide (c ≠ 32)) := by
  unfold Lib.replaceAll Lib.replace Lib.replaceNum
  rw [if_neg (by decide), if_pos (by left; decide)]
  exact replaceK_blank s.length s (Nat.le_refl _)
/-- What a code says of itself and of the texts beside it. -/
structure CodeIs (k : Nat) (s : ByteArray) (l : List UInt8) : Prop where
  len : 4 ≤ l.length ∧ l.length ≤ 6
  self : codeR (k : Int) ⟨l.toArray⟩ = (l, true)
  more : codeR (k : Int) ⟨(l ++ l.take 1).toArray⟩ = ([], false)
  other : ∀ (i : Nat) (c : UInt8), i < l.length → (codeR (k : Int) ⟨(l.set i c).toArray⟩).2 = sameSort (l.getD i 0) c
  blank : l = Lib.replaceAll s.data.toList [32] []
theorem code_is {k : Nat} {s : ByteArray} {l : List UInt8} (h : codeR (k : Int) s = (l, true)) : CodeIs k s l := by
  rcases code_cases k s with e | ⟨j, ek, hj, e, hm⟩
  · rw [e] at h; cases h
  · obtain rfl : k = j := by omega
    rw [h] at e
    have el : l = s.data.toList.filter (fun c => decide (c ≠ 32)) := (Prod.mk.inj e).1
    rw [← el] at hm
    have hl := matches_len hm
    have hp : 4 ≤ (patOf k).length ∧ (patOf k).length ≤ 6 := by rcases hj with rfl | rfl | rfl <;> decide
    have hnb := matches_no_blank hm
    refine ⟨by omega, ?_, ?_, ?_, by rw [replace_blank]; exact el⟩
    · rw [code_simple hj (.inr hnb), if_pos hm]
    · rw [code_simple hj (.inr (by
        show (32 : UInt8) ∉ l ++ l.take 1
        intro hmem
        rcases List.mem_append.1 hmem with h' | h'
        · exact hnb h'
        · exact hnb (List.mem_of_mem_take h')))]
      rw [if_neg]
      rw [matchesB_len _ _ (by simp; omega)]
      simp
    · intro i c hi
      rw [code_simple hj (.inl (by show (l.set i c).toArray.size ≠ 7; simp; omega))]
      show (if matchesB (l.set i c) (patOf k) then _ else _ : List UInt8 × Bool).2 = _
      rw [matches_set i c hm hi, kind_sort (matches_at i hm hi)]
      cases sameSort (l.getD i 0) c <;> rfl
theorem code_no {k : Int} {s : ByteArray} {l : List UInt8} (h : codeR k s = (l, false)) : l = [] := by
  rcases code_cases k s with e | ⟨j, ek, hj, e, hm⟩
  · rw [h] at e; exact (Prod.mk.inj e).1
  · rw [h] at e; cases (Prod.mk.inj e).2
end Go.Proofs.YtenenmlgnifelaaDoor
