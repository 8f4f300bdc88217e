/-
  Plain laws: what the reference says of a word is what the program says of it.
-/
import Derived.Test.YtdcpmnkebhilpaaGreatDoorCp
namespace Go.Proofs.YtdcpmnkebhilpaaGreatDoor
set_option linter.unusedVariables false
def shpC (c : UInt8) : UInt8 := if isLetter (c.toNat : Int) then 65 else if isDigit (c.toNat : Int) then 48 else c
def cntP (p : Int → Bool) (l : List UInt8) : Nat := l.countP fun c => p (c.toNat : Int)
def isHy (n : Int) : Bool := decide (n = 45)
theorem cntP_snoc (p : Int → Bool) (l : List UInt8) (c : UInt8) : cntP p (l ++ [c]) = cntP p l + if p (c.toNat : Int) then 1 else 0 := by
  unfold cntP
  rw [List.countP_append, List.countP_singleton]
theorem cntP_cons (p : Int → Bool) (l : List UInt8) (c : UInt8) : cntP p (c :: l) = cntP p l + if p (c.toNat : Int) then 1 else 0 := by
  unfold cntP; rw [List.countP_cons]
theorem cntP_all {p : Int → Bool} {l : List UInt8} (h : ∀ c ∈ l, p (c.toNat : Int) = true) : cntP p l = l.length := by
  unfold cntP; rw [List.countP_eq_length]; exact h
theorem cntP_none {p : Int → Bool} {l : List UInt8} (h : ∀ c ∈ l, p (c.toNat : Int) = false) : cntP p l = 0 := by
  unfold cntP; rw [List.countP_eq_zero]; intro c hc; rw [h c hc]; simp
theorem cntP_zero {p : Int → Bool} {l : List UInt8} (h : cntP p l = 0) : ∀ c ∈ l, p (c.toNat : Int) = false := by
  unfold cntP at h
  rw [List.countP_eq_zero] at h
  intro c hc
  have := h c hc
  simpa using this
theorem letter_not_digit {n : Int} (h : isLetter n = true) : isDigit n = false := by unfold isLetter at h; unfold isDigit; simp at h ⊢; omega
theorem two_le (l : List UInt8) : cntP isLetter l + cntP isDigit l ≤ l.length := by
  induction l with
  | nil => simp [cntP]
  | cons c l ih =>
    rw [cntP_cons, cntP_cons]
    cases hl : isLetter (c.toNat : Int) <;> cases hd : isDigit (c.toNat : Int) <;> simp <;> try omega
    rw [letter_not_digit hl] at hd; cases hd
theorem two_flat (l : List UInt8) : cntP isLetter l + cntP isDigit l = l.length ↔ ∀ c ∈ l, isFlat (c.toNat : Int) = true := by
  induction l with
  | nil => simp [cntP]
  | cons c l ih =>
    have hle := two_le l
    rw [cntP_cons, cntP_cons]
    simp only [List.mem_cons, forall_eq_or_imp, ← ih, List.length_cons]
    unfold isFlat
    cases hl : isLetter (c.toNat : Int) <;> cases hd : isDigit (c.toNat : Int)
    · simp; omega
    · simp; omega
    · simp; omega
    · rw [letter_not_digit hl] at hd; cases hd
theorem hy_not {n : Int} (h : isHy n = true) : isLetter n = false ∧ isDigit n = false := by unfold isHy at h; unfold isLetter isDigit; simp at h ⊢; omega
theorem three_le (l : List UInt8) : cntP isLetter l + cntP isDigit l + cntP isHy l ≤ l.length := by
  induction l with
  | nil => simp [cntP]
  | cons c l ih =>
    rw [cntP_cons, cntP_cons, cntP_cons]
    cases hh : isHy (c.toNat : Int)
    · cases hl : isLetter (c.toNat : Int) <;> cases hd : isDigit (c.toNat : Int) <;> simp <;> try omega
      rw [letter_not_digit hl] at hd; cases hd
    · rw [(hy_not hh).1, (hy_not hh).2]; simp; omega
theorem three_name (l : List UInt8) : cntP isLetter l + cntP isDigit l + cntP isHy l = l.length ↔ ∀ c ∈ l, isName (c.toNat : Int) = true := by
  induction l with
  | nil => simp [cntP]
  | cons c l ih =>
    have hle := three_le l
    rw [cntP_cons, cntP_cons, cntP_cons]
    simp only [List.mem_cons, forall_eq_or_imp, ← ih, List.length_cons]
    have en : isName (c.toNat : Int) = (isLetter (c.toNat : Int) || isDigit (c.toNat : Int) || isHy (c.toNat : Int)) := rfl
    rw [en]
    cases hh : isHy (c.toNat : Int)
    · cases hl : isLetter (c.toNat : Int) <;> cases hd : isDigit (c.toNat : Int)
      · simp; omega
      · simp; omega
      · simp; omega
      · rw [letter_not_digit hl] at hd; cases hd
    · rw [(hy_not hh).1, (hy_not hh).2]; simp; omega
def refNumR (l : List UInt8) : Int × List UInt8 × Bool :=
  if cntP isDigit l < 1 ∨ 6 < cntP isDigit l ∨ 1 < cntP isLetter l ∨ cntP isLetter l + cntP isDigit l ≠ l.length ∨ l.getD 0 0 = 48 then (0, [], false)
  else if cntP isLetter l = 1 ∧ isLetter ((l.getD (cntP isDigit l) 0).toNat : Int) = false then (0, [], false)
  else (valOf (l.take (cntP isDigit l)), l.drop (cntP isDigit l), true)
theorem head_getD {l : List UInt8} (h : 0 < l.length) : (l.head? == some 48) = decide (l.getD 0 0 = 48) := by
  cases l with
  | nil => simp at h
  | cons c l => rw [Bool.eq_iff_iff]; simp
theorem all_of_numberB {l : List UInt8} (h : numberB ⟨l.toArray⟩ = true) : 0 < l.length ∧ l.length ≤ 6 ∧ l.getD 0 0 ≠ 48 ∧ ∀ c ∈ l, isDigit (c.toNat : Int) = true := by
  have hd := number_digits h
  unfold numberB head0 at h
  have e : (⟨l.toArray⟩ : ByteArray).size = l.length := by simp [ByteArray.size]
  rw [e] at h
  simp only [Bool.and_eq_true, decide_eq_true_eq, Bool.not_eq_true'] at h
  refine ⟨h.1.1.1, h.1.1.2, ?_, hd⟩
  have h2 := h.1.2
  rw [head_getD h.1.1.1] at h2
  simpa using h2
theorem numberB_iff {l : List UInt8} (h1 : 0 < l.length) (h6 : l.length ≤ 6) (h0 : l.getD 0 0 ≠ 48) (hd : ∀ c ∈ l, isDigit (c.toNat : Int) = true) : numberB ⟨l.toArray⟩ = true := by
  unfold numberB head0 allB
  have e : (⟨l.toArray⟩ : ByteArray).size = l.length := by simp [ByteArray.size]
  rw [e, show ((⟨l.toArray⟩ : ByteArray).data.toList) = l from rfl, head_getD h1]
  simp only [Bool.and_eq_true, decide_eq_true_eq, Bool.not_eq_true', List.all_eq_true]
  exact ⟨⟨⟨h1, h6⟩, by simpa using h0⟩, hd⟩
theorem snoc_of {l : List UInt8} (h : 0 < l.length) : ∃ k c, l = k ++ [c] := by
  have hne : l ≠ [] := List.ne_nil_of_length_pos h
  exact ⟨l.dropLast, l.getLast hne, (List.dropLast_concat_getLast hne).symm⟩
theorem lettered_snoc (k : List UInt8) (c : UInt8) : letteredB ⟨(k ++ [c]).toArray⟩ = (decide (0 < k.length) && numberB ⟨k.toArray⟩ && isLetter (c.toNat : Int)) := by
  unfold letteredB
  have e : (⟨(k ++ [c]).toArray⟩ : ByteArray).size = k.length + 1 := by simp [ByteArray.size]
  have e1 : (⟨(k ++ [c]).toArray⟩ : ByteArray).extract 0 (k.length + 1 - 1) = ⟨k.toArray⟩ := by
    apply WideShapes.bytes_inj
    rw [ByteArray.data_extract, Array.toList_extract, List.extract_eq_take_drop]
    simp
  rw [e, e1]
  have e2 : ((⟨(k ++ [c]).toArray⟩ : ByteArray).data.toList.getD (k.length + 1 - 1) 0) = c := by simp [List.getD_eq_getElem?_getD]
  rw [e2]
  congr 2
  simp
theorem numR_list (l : List UInt8) : numR ⟨l.toArray⟩ = if letteredB ⟨l.toArray⟩ then (valOf (l.take (l.length - 1)), [l.getD (l.length - 1) 0], true) else if numberB ⟨l.toArray⟩ then (valOf l, [], true) else (0, [], false) := by
  unfold numR
  have e : (⟨l.toArray⟩ : ByteArray).size = l.length := by simp [ByteArray.size]
  rw [e]
theorem cnt_digits {l : List UInt8} (h : ∀ c ∈ l, isDigit (c.toNat : Int) = true) : cntP isDigit l = l.length ∧ cntP isLetter l = 0 :=
  ⟨cntP_all h, cntP_none fun c hc => digit_not_letter (h c hc)⟩
theorem ref_num (l : List UInt8) : refNumR l = numR ⟨l.toArray⟩ := by
  rw [numR_list]
  cases hlt : letteredB ⟨l.toArray⟩
  · cases hn : numberB ⟨l.toArray⟩
    · rw [if_neg (by simp), if_neg (by simp)]
      unfold refNumR
      by_cases h1 : cntP isDigit l < 1 ∨ 6 < cntP isDigit l ∨ 1 < cntP isLetter l ∨ cntP isLetter l + cntP isDigit l ≠ l.length ∨ l.getD 0 0 = 48
      · rw [if_pos h1]
      · rw [if_neg h1]
        by_cases h2 : cntP isLetter l = 1 ∧ isLetter ((l.getD (cntP isDigit l) 0).toNat : Int) = false
        · rw [if_pos h2]
        · exfalso
          have hne : l.getD 0 0 ≠ 48 := fun e => h1 (.inr (.inr (.inr (.inr e))))
          have hsum : cntP isLetter l + cntP isDigit l = l.length := by
            by_cases e : cntP isLetter l + cntP isDigit l = l.length
            · exact e
            · exact absurd (.inr (.inr (.inr (.inl e)))) h1
          have hd1 : 1 ≤ cntP isDigit l := by omega
          have hd6 : cntP isDigit l ≤ 6 := by omega
          have hl1 : cntP isLetter l ≤ 1 := by omega
          have hflat := (two_flat l).1 hsum
          by_cases h0 : cntP isLetter l = 0
          · have hz := cntP_zero h0
            have := numberB_iff (l := l) (by omega) (by omega) hne (fun c hc => by
              have := hflat c hc
              unfold isFlat at this
              rw [hz c hc] at this
              simpa using this)
            rw [hn] at this; cases this
          · have h1' : cntP isLetter l = 1 := by omega
            have hlast : isLetter ((l.getD (cntP isDigit l) 0).toNat : Int) = true := by
              cases e : isLetter ((l.getD (cntP isDigit l) 0).toNat : Int)
              · exact absurd ⟨h1', e⟩ h2
              · rfl
            obtain ⟨k, c, rfl⟩ := snoc_of (l := l) (by omega)
            have hlen : (k ++ [c]).length = k.length + 1 := by simp
            have hkd : cntP isDigit (k ++ [c]) = k.length := by omega
            rw [hkd] at hlast
            have ec : (k ++ [c]).getD k.length 0 = c := by simp [List.getD_eq_getElem?_getD]
            rw [ec] at hlast
            have hk0 : cntP isLetter k = 0 := by
              rw [cntP_snoc, hlast] at h1'; simpa using h1'
            have hz := cntP_zero hk0
            have hk1 : 0 < k.length := by omega
            have hkn := numberB_iff (l := k) hk1 (by omega) (by
              have e0 : (k ++ [c]).getD 0 0 = k.getD 0 0 := by
                simp only [List.getD_eq_getElem?_getD]; rw [List.getElem?_append_left hk1]
              rwa [e0] at hne) (fun d hd => by
              have := hflat d (List.mem_append_left _ hd)
              unfold isFlat at this
              rw [hz d hd] at this
              simpa using this)
            rw [lettered_snoc, hkn, hlast] at hlt
            simp [hk1] at hlt
    · rw [if_neg (by simp), if_pos rfl]
      obtain ⟨a, b, c, d⟩ := all_of_numberB hn
      obtain ⟨e1, e2⟩ := cnt_digits d
      unfold refNumR
      rw [e1, e2, if_neg (by
        rintro (h | h | h | h | h)
        · omega
        · omega
        · omega
        · omega
        · exact c h), if_neg (by omega)]
      simp
  · rw [if_pos rfl]
    obtain ⟨k, c, rfl⟩ : ∃ k c, l = k ++ [c] := snoc_of (by
      have := (lettered_parts hlt).1
      have e : (⟨l.toArray⟩ : ByteArray).size = l.length := by simp [ByteArray.size]
      omega)
    rw [lettered_snoc] at hlt
    simp only [Bool.and_eq_true, decide_eq_true_eq] at hlt
    obtain ⟨⟨hk1, hkn⟩, hc⟩ := hlt
    obtain ⟨a, b, c0, d⟩ := all_of_numberB hkn
    obtain ⟨e1, e2⟩ := cnt_digits d
    have f1 : cntP isDigit (k ++ [c]) = k.length := by rw [cntP_snoc, e1, letter_not_digit hc]; simp
    have f2 : cntP isLetter (k ++ [c]) = 1 := by rw [cntP_snoc, e2, hc]; simp
    have f3 : (k ++ [c]).getD 0 0 = k.getD 0 0 := by
      simp only [List.getD_eq_getElem?_getD]; rw [List.getElem?_append_left hk1]
    have f4 : (k ++ [c]).getD k.length 0 = c := by simp [List.getD_eq_getElem?_getD]
    have f5 : (k ++ [c]).length - 1 = k.length := by simp
    unfold refNumR
    rw [f1, f2, f3, f4, f5, if_neg (by
        rintro (h | h | h | h | h)
        · omega
        · omega
        · omega
        · simp at h; omega
        · exact c0 h), if_neg (by rw [hc]; simp)]
    simp
theorem shp_letter {c : UInt8} : (shpC c = 65 ↔ isLetter (c.toNat : Int) = true) := by
  unfold shpC
  cases hl : isLetter (c.toNat : Int)
  · rw [if_neg (by simp)]
    cases hd : isDigit (c.toNat : Int)
    · rw [if_neg (by simp)]
      constructor
      · rintro rfl; revert hl; decide
      · intro h; cases h
    · rw [if_pos rfl]; decide
  · simp
theorem shp_digit {c : UInt8} : (shpC c = 48 ↔ isDigit (c.toNat : Int) = true) := by
  unfold shpC
  cases hl : isLetter (c.toNat : Int)
  · rw [if_neg (by simp)]
    cases hd : isDigit (c.toNat : Int)
    · rw [if_neg (by simp)]
      constructor
      · rintro rfl; revert hd; decide
      · intro h; cases h
    · simp
  · rw [if_pos rfl, letter_not_digit hl]; decide
theorem shp_other {c d : UInt8} (h65 : d ≠ 65) (h48 : d ≠ 48) (hl : isLetter (d.toNat : Int) = false) (hd : isDigit (d.toNat : Int) = false) : (shpC c = d ↔ c = d) := by
  unfold shpC
  split
  · rename_i h; exact ⟨fun e => absurd e.symm h65, fun e => by subst e; rw [h] at hl; cases hl⟩
  · split
    · rename_i h; exact ⟨fun e => absurd e.symm h48, fun e => by subst e; rw [h] at hd; cases hd⟩
    · exact Iff.rfl
def patB (ks : List Bool) : List UInt8 := ks.map fun k => if k then 65 else 48
theorem shp_matches : ∀ (l : List UInt8) (ks : List Bool), decide (l.map shpC = patB ks) = matchesB l ks
  | [], [] => rfl
  | [], k :: ks => by simp [patB, matchesB]
  | c :: l, [] => by simp [patB, matchesB]
  | c :: l, k :: ks => by
    have ih := shp_matches l ks
    rw [matchesB, ← ih]
    unfold patB kindB
    cases k
    · simp only [List.map_cons, List.cons.injEq, shp_digit, Bool.false_eq_true, if_false]
      rw [Bool.eq_iff_iff]; simp
    · simp only [List.map_cons, List.cons.injEq, shp_letter, if_true]
      rw [Bool.eq_iff_iff]; simp
theorem sizes (s : ByteArray) : (⟨s.data.toList.toArray⟩ : ByteArray) = s := by cases s; simp
def refHas (l : List UInt8) (k : Nat) : Bool :=
  match k with
  | 0 => (refNumR l).2.2 && decide ((refNumR l).2.1 = [])
  | 1 => (refNumR l).2.2 && !decide ((refNumR l).2.1 = [])
  | 2 => decide (0 < cntP isLetter l) && decide (cntP isLetter l + cntP isDigit l + cntP isHy l = l.length)
  | 3 => decide (kindsB l / 2 % 2 = 1)
  | 4 => decide (kindsB l / 4 % 2 = 1)
  | 5 => decide (kindsB l / 8 % 2 = 1)
  | 6 => decide (kindsB l / 16 % 2 = 1)
  | 7 => decide (1 ≤ l.length) && decide (l.length ≤ 6) && decide (cntP isLetter l + cntP isDigit l = l.length)
  | 8 => decide (l.map shpC = [65, 65])
  | 9 => decide (l.map shpC = [48, 48, 48, 48, 48])
  | 10 => decide (l.map shpC = [65, 48, 65, 48, 65, 48])
  | 11 => decide (l.map shpC = [65, 48, 65])
  | 12 => decide (l.map shpC = [48, 65, 48])
  | 13 => decide (l.map shpC = [48, 48, 48, 48])
  | _ => false
theorem any_pos (l : List UInt8) : decide (0 < cntP isLetter l) = l.any (fun c => isLetter (c.toNat : Int)) := by
  rw [Bool.eq_iff_iff]
  simp only [decide_eq_true_eq, List.any_eq_true]
  unfold cntP
  rw [List.countP_pos_iff]
theorem kind_div (l : List UInt8) (j : Nat) (n : Nat) (hn : n = 2 ^ j) : decide (kindsB l / n % 2 = 1) = kindOf (kindsB l) (j : Int) := by
  subst hn
  unfold kindOf
  rw [Int.toNat_natCast, Bool.eq_iff_iff]
  simp only [decide_eq_true_eq]
  have e : ((kindsB l : Int) / 2 ^ j % 2) = ((kindsB l / 2 ^ j % 2 : Nat) : Int) := by push_cast; rfl
  rw [e]
  omega
theorem ref_has (s : ByteArray) (k : Nat) (hk : k < 14) : refHas s.data.toList k = hasB s k := by
  have h0 : k = 0 ∨ k = 1 ∨ k = 2 ∨ k = 3 ∨ k = 4 ∨ k = 5 ∨ k = 6 ∨ k = 7 ∨ k = 8 ∨ k = 9 ∨ k = 10 ∨ k = 11 ∨ k = 12 ∨ k = 13 := by omega
  have hn : refNumR s.data.toList = numR s := by rw [ref_num, sizes]
  rcases h0 with rfl | rfl | rfl | rfl | rfl | rfl | rfl | rfl | rfl | rfl | rfl | rfl | rfl | rfl
  · show ((refNumR s.data.toList).2.2 && decide ((refNumR s.data.toList).2.1 = [])) = numberB s
    rw [hn]
    unfold numR
    cases hl : letteredB s
    · cases hb : numberB s <;> simp
    · cases hb : numberB s
      · simp
      · rw [number_not_lettered hb] at hl; cases hl
  · show ((refNumR s.data.toList).2.2 && !decide ((refNumR s.data.toList).2.1 = [])) = letteredB s
    rw [hn]
    unfold numR
    cases hl : letteredB s
    · cases hb : numberB s <;> simp
    · simp
  · show (decide (0 < cntP isLetter s.data.toList) && decide (cntP isLetter s.data.toList + cntP isDigit s.data.toList + cntP isHy s.data.toList = s.data.toList.length)) = nameB s
    unfold nameB allB anyB
    rw [any_pos, Bool.and_comm]
    congr 1
    rw [Bool.eq_iff_iff]
    simp only [decide_eq_true_eq, List.all_eq_true]
    exact three_name _
  · exact kind_div _ 1 2 rfl
  · exact kind_div _ 2 4 rfl
  · exact kind_div _ 3 8 rfl
  · exact kind_div _ 4 16 rfl
  · show (decide (1 ≤ s.data.toList.length) && decide (s.data.toList.length ≤ 6) && decide (cntP isLetter s.data.toList + cntP isDigit s.data.toList = s.data.toList.length)) = flatB s
    unfold flatB allB
    have e : s.data.toList.length = s.size := by simp
    rw [e]
    congr 1
    rw [Bool.eq_iff_iff, ← e]
    simp only [decide_eq_true_eq, List.all_eq_true]
    exact two_flat _
  · exact shp_matches _ [true, true]
  · exact shp_matches _ [false, false, false, false, false]
  · exact shp_matches _ [true, false, true, false, true, false]
  · exact shp_matches _ [true, false, true]
  · exact shp_matches _ [false, true, false]
  · exact shp_matches _ [false, false, false, false]
def refCodeR (c : Int) (l : List UInt8) : List UInt8 × Bool :=
  if (c = 1 ∧ l.map shpC = [48, 48, 48, 48, 48]) ∨ (c = 2 ∧ l.map shpC = [65, 48, 65, 48, 65, 48]) ∨ (c = 3 ∧ l.map shpC = [48, 48, 48, 48]) then (l, true)
  else if c = 2 ∧ l.length = 7 ∧ l.map shpC = [65, 48, 65, 32, 48, 65, 48] then (l.take 3 ++ l.drop 4, true)
  else ([], false)
theorem shp_blank {c : UInt8} : (shpC c = 32 ↔ c = 32) := shp_other (by decide) (by decide) (by decide) (by decide)
theorem shp_matches' {l : List UInt8} {ks : List Bool} : l.map shpC = patB ks ↔ matchesB l ks = true := by
  rw [← shp_matches, decide_eq_true_eq]
theorem seven {l : List UInt8} (h : l.map shpC = [65, 48, 65, 32, 48, 65, 48]) : ∃ a b, l = a ++ 32 :: b ∧ matchesB a [true, false, true] = true ∧ matchesB b [false, true, false] = true ∧ l.take 3 = a ∧ l.drop 4 = b := by
  rcases l with _ | ⟨c0, l⟩
  · simp at h
  rcases l with _ | ⟨c1, l⟩
  · simp at h
  rcases l with _ | ⟨c2, l⟩
  · simp at h
  rcases l with _ | ⟨c3, l⟩
  · simp at h
  rcases l with _ | ⟨c4, l⟩
  · simp at h
  rcases l with _ | ⟨c5, l⟩
  · simp at h
  rcases l with _ | ⟨c6, l⟩
  · simp at h
  rcases l with _ | ⟨c7, l⟩
  · simp only [List.map_cons, List.map_nil, List.cons.injEq, and_true] at h
    obtain ⟨h0, h1, h2, h3, h4, h5, h6⟩ := h
    exact ⟨[c0, c1, c2], [c4, c5, c6], by rw [shp_blank.1 h3]; rfl, shp_matches'.1 (by simp [patB, h0, h1, h2]), shp_matches'.1 (by simp [patB, h4, h5, h6]), rfl, rfl⟩
  · simp at h
theorem split_uniq : ∀ {a b c d : List UInt8}, a ++ 32 :: b = c ++ 32 :: d → (32 : UInt8) ∉ a → (32 : UInt8) ∉ c → a = c ∧ b = d
  | [], b, [], d, h, _, _ => ⟨rfl, by simpa using h⟩
  | [], b, x :: c, d, h, _, hc => by simp at h; exact absurd (by simp [← h.1]) hc
  | x :: a, b, [], d, h, ha, _ => by simp at h; exact absurd (by simp [h.1]) ha
  | x :: a, b, y :: c, d, h, ha, hc => by
    simp only [List.cons_append, List.cons.injEq] at h
    obtain ⟨e1, e2⟩ := split_uniq h.2 (fun m => ha (by simp [m])) (fun m => hc (by simp [m]))
    exact ⟨by rw [h.1, e1], e2⟩
theorem cut_first (s : ByteArray) : (32 : UInt8) ∉ (cutB s).1.data.toList := by
  unfold cutB
  by_cases hix : Lib.indexByte s.data.toList 32 = -1
  · rw [if_pos hix]
    intro h
    obtain ⟨k, hk⟩ := List.mem_iff_getElem?.1 h
    exact Lib.indexByte_none hix k hk
  · rw [if_neg hix]
    obtain ⟨i, hi⟩ : ∃ i : Nat, Lib.indexByte s.data.toList 32 = i := ⟨(Lib.indexByte s.data.toList 32).toNat, by have := Lib.indexByte_ge s.data.toList 32; omega⟩
    rw [hi, Int.toNat_natCast]
    simp only
    rw [ByteArray.data_extract, Array.toList_extract, List.extract_eq_take_drop]
    simp only [Nat.sub_zero, List.drop_zero]
    intro h
    obtain ⟨k, hk, he⟩ := List.mem_take_iff_getElem.1 h
    exact (Lib.indexByte_some hi).2 k (by omega) (by rw [List.getElem?_eq_getElem (by omega), he])
theorem ref_code (c : Int) (s : ByteArray) : refCodeR c s.data.toList = codeR c s := by
  have p9 := shp_matches s.data.toList [false, false, false, false, false]
  have p10 := shp_matches s.data.toList [true, false, true, false, true, false]
  have p13 := shp_matches s.data.toList [false, false, false, false]
  by_cases h1 : c = 1
  · subst h1
    unfold refCodeR
    show _ = if hasB s 9 then _ else _
    rw [show hasB s 9 = _ from p9.symm]
    by_cases e : s.data.toList.map shpC = [48, 48, 48, 48, 48]
    · rw [if_pos (.inl ⟨rfl, e⟩), if_pos (show decide (s.data.toList.map shpC = patB [false, false, false, false, false]) = true from decide_eq_true e)]
    · rw [if_neg (by rintro (⟨_, h⟩ | ⟨h, _⟩ | ⟨h, _⟩) <;> first | exact e h | omega), if_neg (by omega), if_neg (by simpa [patB] using e)]
  by_cases h3 : c = 3
  · subst h3
    unfold refCodeR
    show _ = if hasB s 13 then _ else _
    rw [show hasB s 13 = _ from p13.symm]
    by_cases e : s.data.toList.map shpC = [48, 48, 48, 48]
    · rw [if_pos (.inr (.inr ⟨rfl, e⟩)), if_pos (show decide (s.data.toList.map shpC = patB [false, false, false, false]) = true from decide_eq_true e)]
    · rw [if_neg (by rintro (⟨h, _⟩ | ⟨h, _⟩ | ⟨_, h⟩) <;> first | exact e h | omega), if_neg (by omega), if_neg (by simpa [patB] using e)]
  by_cases h2 : c = 2
  · subst h2
    unfold refCodeR
    show _ = if (cutB s).2.2 = true ∧ hasB (cutB s).1 11 = true ∧ hasB (cutB s).2.1 12 = true then _ else if hasB s 10 then _ else _
    rw [show hasB s 10 = _ from p10.symm]
    by_cases hc : (cutB s).2.2 = true ∧ hasB (cutB s).1 11 = true ∧ hasB (cutB s).2.1 12 = true
    · rw [if_pos hc]
      have h7 := cut_len hc.1 hc.2.1 hc.2.2
      obtain ⟨a, b, c⟩ := hc
      rcases cut_cases s with ⟨h', _⟩ | ⟨_, e⟩
      · rw [a] at h'; cases h'
      · have hb := shp_matches'.2 b
        have hc := shp_matches'.2 c
        have hlb := matches_len b
        have hm : s.data.toList.map shpC = [65, 48, 65, 32, 48, 65, 48] := by
          rw [e, List.map_append, List.map_cons, hb, hc]; decide
        rw [if_neg (by rw [hm]; rintro (⟨h, _⟩ | ⟨_, h⟩ | ⟨h, _⟩) <;> first | omega | (revert h; decide)), if_pos ⟨rfl, by simpa using h7, hm⟩]
        congr 1
        rw [e]
        congr 1
        · rw [List.take_append_of_le_length (by rw [hlb]; decide), List.take_of_length_le (by rw [hlb]; decide)]
        · rw [List.drop_append, hlb]
          simp [List.drop_of_length_le (show (cutB s).1.data.toList.length ≤ 4 by rw [hlb]; decide)]
    · rw [if_neg hc]
      by_cases e : s.data.toList.map shpC = [65, 48, 65, 48, 65, 48]
      · rw [if_pos (.inr (.inl ⟨rfl, e⟩)), if_pos (show decide (s.data.toList.map shpC = patB [true, false, true, false, true, false]) = true from decide_eq_true e)]
      · rw [if_neg (by rintro (⟨h, _⟩ | ⟨_, h⟩ | ⟨h, _⟩) <;> first | exact e h | omega), if_neg (c := decide _ = true) (by simpa [patB] using e), if_neg]
        rintro ⟨_, _, hm⟩
        obtain ⟨a, b, e1, m1, m2, _, _⟩ := seven hm
        apply hc
        rcases cut_cases s with ⟨_, hno⟩ | ⟨h', e2⟩
        · exact absurd (by rw [e1]; simp) hno
        · obtain ⟨x, y⟩ := split_uniq (e1.symm.trans e2) (matches_no_blank m1) (cut_first s)
          refine ⟨h', ?_, ?_⟩
          · show matchesB _ _ = true; rw [← x]; exact m1
          · show matchesB _ _ = true; rw [← y]; exact m2
  · unfold refCodeR codeR
    rw [if_neg (by rintro (⟨h, _⟩ | ⟨h, _⟩ | ⟨h, _⟩) <;> first | exact h1 h | exact h2 h | exact h3 h), if_neg (fun h => h2 h.1), if_neg h1, if_neg h2, if_neg h3]
end Go.Proofs.YtdcpmnkebhilpaaGreatDoor
