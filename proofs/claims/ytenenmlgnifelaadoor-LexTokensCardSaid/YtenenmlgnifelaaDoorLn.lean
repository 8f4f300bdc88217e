/-
  Plain laws about the digits of a number, and what Number says of them.
-/
import Derived.Test.YtenenmlgnifelaaDoorLp
namespace Go.Proofs.YtenenmlgnifelaaDoor
set_option linter.unusedVariables false
/-- The digits of a number. -/
def digGo : Nat → Nat → List UInt8
  | 0, _ => []
  | f + 1, n => if n < 10 then [UInt8.ofNat (48 + n)] else digGo f (n / 10) ++ [UInt8.ofNat (48 + n % 10)]
structure Digits (n : Nat) (l : List UInt8) : Prop where
  pos : 0 < l.length
  digits : ∀ c ∈ l, isDigit (c.toNat : Int) = true
  val : valOf l = (n : Int)
  lo : 1 ≤ n → 10 ^ (l.length - 1) ≤ n
  hi : n < 10 ^ l.length
  head : 1 ≤ n → l.head? ≠ some 48
theorem ofNat_digit {d : Nat} (h : d < 10) : ((UInt8.ofNat (48 + d)).toNat : Int) = 48 + d := by
  have : (UInt8.ofNat (48 + d)).toNat = 48 + d := by rw [UInt8.toNat_ofNat']; omega
  omega
theorem valOf_snoc (l : List UInt8) (c : UInt8) : valOf (l ++ [c]) = valOf l * 10 + ((c.toNat : Int) - 48) := by
  unfold valOf; rw [List.foldl_append]; rfl
theorem digits_go : ∀ f n, n < 10 ^ (f + 1) → Digits n (digGo (f + 1) n)
  | f, n, h => by
    rw [digGo]
    by_cases h10 : n < 10
    · rw [if_pos h10]
      have e := ofNat_digit h10
      refine ⟨by simp, ?_, ?_, ?_, ?_, ?_⟩
      · intro c hc
        obtain rfl := List.mem_singleton.1 hc
        unfold isDigit; rw [e]; simp; omega
      · show valOf ([] ++ [_]) = _
        rw [valOf_snoc, e]; simp [valOf]; omega
      · intro h1; simpa using h1
      · simpa using h10
      · intro h1 hh
        have : (UInt8.ofNat (48 + n)) = 48 := by simpa using hh
        rw [this] at e; simp at e; omega
    · rw [if_neg h10]
      cases f with
      | zero => simp at h; omega
      | succ f =>
        have ih := digits_go f (n / 10) (by rw [Nat.pow_succ] at h; omega)
        have e := ofNat_digit (Nat.mod_lt n (by decide : 0 < 10))
        have h1 : 1 ≤ n / 10 := by omega
        generalize digGo (f + 1) (n / 10) = l at ih ⊢
        have hlen : (l ++ [UInt8.ofNat (48 + n % 10)]).length = l.length + 1 := by simp
        refine ⟨by omega, ?_, ?_, ?_, ?_, ?_⟩
        · intro c hc
          rcases List.mem_append.1 hc with hc | hc
          · exact ih.digits c hc
          · obtain rfl := List.mem_singleton.1 hc
            unfold isDigit; rw [e]; simp; omega
        · rw [valOf_snoc, ih.val, e]; omega
        · intro _
          have := ih.lo h1
          have hp := ih.pos
          rw [hlen]
          obtain ⟨L, hL⟩ : ∃ L, l.length = L + 1 := ⟨l.length - 1, by omega⟩
          rw [hL] at this ⊢
          simp only [Nat.add_sub_cancel] at this ⊢
          rw [Nat.pow_succ]; omega
        · have := ih.hi
          rw [hlen, Nat.pow_succ]; omega
        · intro _
          have := ih.head h1
          have hp := ih.pos
          cases l with
          | nil => simp at hp
          | cons a l => simpa using this
theorem ten_pow_le {a b : Nat} (h : a ≤ b) : 10 ^ a ≤ 10 ^ b := Nat.pow_le_pow_right (by decide) h
theorem Digits.len_le {n : Nat} {l : List UInt8} (h : Digits n l) (h1 : 1 ≤ n) (k : Nat) (hk : n < 10 ^ k) : l.length ≤ k := by
  have := h.lo h1
  rcases Nat.lt_or_ge k l.length with h' | h'
  · have := ten_pow_le (show k ≤ l.length - 1 by omega); omega
  · exact h'
theorem Digits.len_gt {n : Nat} {l : List UInt8} (h : Digits n l) (k : Nat) (hk : 10 ^ k ≤ n) : k < l.length := by
  have := h.hi
  rcases Nat.lt_or_ge k l.length with h' | h'
  · exact h'
  · have := ten_pow_le h'; omega
theorem ba_size (l : List UInt8) : (⟨l.toArray⟩ : ByteArray).size = l.length := by simp [ByteArray.size]
/-- numberB of a list. -/
theorem numberB_list (l : List UInt8) (h1 : 0 < l.length) (h6 : l.length ≤ 6) (hh : l.head? ≠ some 48) (hd : ∀ c ∈ l, isDigit (c.toNat : Int) = true) : numberB ⟨l.toArray⟩ = true := by
  unfold numberB head0 allB
  rw [ba_size]
  simp only [Bool.and_eq_true, decide_eq_true_eq, Bool.not_eq_true', List.all_eq_true]
  exact ⟨⟨⟨h1, h6⟩, by simpa using hh⟩, hd⟩
theorem numberB_long (l : List UInt8) (h : 6 < l.length) : numberB ⟨l.toArray⟩ = false := by
  unfold numberB; rw [ba_size]; simp; omega
theorem numberB_zero (l : List UInt8) : numberB ⟨(48 :: l).toArray⟩ = false := by
  unfold numberB head0; simp
theorem numberB_not {l : List UInt8} {c : UInt8} (hc : c ∈ l) (h : isDigit (c.toNat : Int) = false) : numberB ⟨l.toArray⟩ = false := by
  cases hn : numberB ⟨l.toArray⟩
  · rfl
  · have := number_digits hn c hc
    rw [h] at this; cases this
theorem ext_snoc (l : List UInt8) (c : UInt8) : (⟨(l ++ [c]).toArray⟩ : ByteArray).extract 0 ((⟨(l ++ [c]).toArray⟩ : ByteArray).size - 1) = ⟨l.toArray⟩ := by
  apply WideShapes.bytes_inj
  rw [ByteArray.data_extract, Array.toList_extract, List.extract_eq_take_drop, ba_size]
  simp
theorem letteredB_snoc (l : List UInt8) (c : UInt8) : letteredB ⟨(l ++ [c]).toArray⟩ = (decide (0 < l.length) && numberB ⟨l.toArray⟩ && isLetter (c.toNat : Int)) := by
  unfold letteredB
  rw [ext_snoc, ba_size]
  have e : (l ++ [c]).length = l.length + 1 := by simp
  have e2 : ((⟨(l ++ [c]).toArray⟩ : ByteArray).data.toList.getD ((l ++ [c]).length - 1) 0) = c := by
    rw [e]; simp [List.getD_eq_getElem?_getD]
  rw [e2, e]
  congr 2
  simp
theorem digit_not_letter' {c : Int} (h : isLetter c = true) : isDigit c = false := by
  cases hd : isDigit c
  · rfl
  · rw [digit_not_letter hd] at h; cases h
/-- A number's own digits. -/
theorem num_self {n : Nat} {l : List UInt8} (h : Digits n l) (h1 : 1 ≤ n) (h6 : n < 10 ^ 6) : numR ⟨l.toArray⟩ = ((n : Int), [], true) := by
  have hn := numberB_list l h.pos (h.len_le h1 6 h6) (h.head h1) h.digits
  unfold numR
  rw [number_not_lettered hn, hn]
  simp [h.val]
theorem num_letter {n : Nat} {l : List UInt8} (h : Digits n l) (h1 : 1 ≤ n) (h6 : n < 10 ^ 6) (c : UInt8) (hc : isLetter (c.toNat : Int) = true) : numR ⟨(l ++ [c]).toArray⟩ = ((n : Int), [c], true) := by
  have hn := numberB_list l h.pos (h.len_le h1 6 h6) (h.head h1) h.digits
  have hl : letteredB ⟨(l ++ [c]).toArray⟩ = true := by rw [letteredB_snoc, hn, hc]; simp [h.pos]
  unfold numR
  rw [hl, ba_size]
  have e : (l ++ [c]).length - 1 = l.length := by simp
  rw [e]
  simp [h.val, List.getD_eq_getElem?_getD]
theorem head_snoc {l : List UInt8} (h : 0 < l.length) (c : UInt8) : (l ++ [c]).head? = l.head? := by
  cases l with
  | nil => simp at h
  | cons a l => rfl
theorem num_digit {n : Nat} {l : List UInt8} (h : Digits n l) (h1 : 1 ≤ n) (c : UInt8) (hc : isDigit (c.toNat : Int) = true) (h5 : n < 100000) : numR ⟨(l ++ [c]).toArray⟩ = (10 * (n : Int) + ((c.toNat : Int) - 48), [], true) := by
  have hn : numberB ⟨(l ++ [c]).toArray⟩ = true := numberB_list _ (by simp) (by have := h.len_le h1 5 (by omega); simp; omega) (by rw [head_snoc h.pos]; exact h.head h1) (fun d hd => by
    rcases List.mem_append.1 hd with hd | hd
    · exact h.digits d hd
    · obtain rfl := List.mem_singleton.1 hd; exact hc)
  unfold numR
  rw [number_not_lettered hn, hn]
  simp [valOf_snoc, h.val]
  omega
theorem num_far {n : Nat} {l : List UInt8} (h : Digits n l) (c : UInt8) (hc : isDigit (c.toNat : Int) = true) (h5 : 100000 ≤ n) : numR ⟨(l ++ [c]).toArray⟩ = (0, [], false) := by
  have hn : numberB ⟨(l ++ [c]).toArray⟩ = false := numberB_long _ (by have := h.len_gt 5 (by omega); simp; omega)
  have hl : letteredB ⟨(l ++ [c]).toArray⟩ = false := by rw [letteredB_snoc, digit_not_letter hc]; simp
  unfold numR; rw [hl, hn]; rfl
theorem num_other {l : List UInt8} (c : UInt8) (hc : isDigit (c.toNat : Int) = false) (hc' : isLetter (c.toNat : Int) = false) : numR ⟨(l ++ [c]).toArray⟩ = (0, [], false) := by
  have hn : numberB ⟨(l ++ [c]).toArray⟩ = false := numberB_not (c := c) (by simp) hc
  have hl : letteredB ⟨(l ++ [c]).toArray⟩ = false := by rw [letteredB_snoc, hc']; simp
  unfold numR; rw [hl, hn]; rfl
theorem num_zero {n : Nat} {l : List UInt8} (h : Digits n l) : numR ⟨(48 :: l).toArray⟩ = (0, [], false) := by
  have hl : letteredB ⟨(48 :: l).toArray⟩ = false := by
    have hne : l ≠ [] := List.ne_nil_of_length_pos h.pos
    obtain ⟨k, c, rfl⟩ : ∃ k c, l = k ++ [c] := ⟨l.dropLast, l.getLast hne, (List.dropLast_concat_getLast hne).symm⟩
    rw [← List.cons_append, letteredB_snoc, numberB_zero]; simp
  unfold numR; rw [hl, numberB_zero]; rfl
theorem num_six {n : Nat} {l : List UInt8} (h : Digits n l) : numR ⟨(l ++ [48, 48, 48, 48, 48, 48]).toArray⟩ = (0, [], false) := by
  have hp := h.pos
  have hn : numberB ⟨(l ++ [48, 48, 48, 48, 48, 48]).toArray⟩ = false := numberB_long _ (by simp; omega)
  have hl : letteredB ⟨(l ++ [48, 48, 48, 48, 48, 48]).toArray⟩ = false := by
    have e : l ++ [48, 48, 48, 48, 48, 48] = (l ++ [48, 48, 48, 48, 48]) ++ [48] := by simp
    rw [e, letteredB_snoc]
    have : isLetter (((48 : UInt8).toNat : Nat) : Int) = false := by decide
    rw [this]; simp
  unfold numR; rw [hl, hn]; rfl
end Go.Proofs.YtenenmlgnifelaaDoor
