/-
  Plain laws about folded texts: folding is a machine that reads byte by byte; a folded text is folded; its words, with one blank between two, are the text.
-/
import Derived.Test.YtdcpmnkebhilpaaGreatDoorLi2
import Derived.Test.YtdcpmnkebhilpaaGreatDoorWp
import Derived.Test.YtdcpmnkebhilpaaGreatDoorLp
namespace Go.Proofs.YtdcpmnkebhilpaaGreatDoor
set_option linter.unusedVariables false
def fStep (st : List UInt8 × Bool) (c : UInt8) : List UInt8 × Bool := if c = 32 then (st.1, true) else (st.1 ++ (if st.2 = true ∧ st.1 ≠ [] then [32] else []) ++ [c], false)
def fRun (l : List UInt8) : List UInt8 × Bool := l.foldl fStep ([], false)
def conv (s : ByteArray) : Nat → Nat → List UInt8
  | 0, _ => []
  | n + 1, i => if i < s.size then (if (foldAt s i).1 = [] then [32] else (foldAt s i).1) ++ conv s n (i + (foldAt s i).2) else []
def keepC (c : UInt8) : Bool := keptB (c.toNat : Int)
theorem all_ite {c : Prop} [Decidable c] {a b : List UInt8} (ha : a.all keepC = true) (hb : b.all keepC = true) : (if c then a else b).all keepC = true := by split <;> assumption
theorem letters_kept (a b : Int) : (lettersP a b).all keepC = true := by
  unfold lettersP lettersPT
  repeat' (refine all_ite ?_ ?_)
  all_goals decide
theorem low_kept {c : UInt8} (h : lowB (c.toNat : Int) = true) : keepC (c - 32) = true := by
  have : ∀ x : Fin 256, 97 ≤ x.val ∧ x.val ≤ 122 → keepC (UInt8.ofNat x.val - 32) = true := by decide +kernel
  unfold lowB at h
  simp only [decide_eq_true_eq] at h
  have := this ⟨c.toNat, c.toNat_lt⟩ ⟨by show 97 ≤ c.toNat; omega, by show c.toNat ≤ 122; omega⟩
  simpa using this
theorem foldAt_kept (s : ByteArray) (i : Nat) : (foldAt s i).1.all keepC = true := by
  unfold foldAt
  split
  · rename_i h
    simp only [List.all_cons, List.all_nil, Bool.and_true]
    exact h
  · split
    · rename_i h
      simp only [List.all_cons, List.all_nil, Bool.and_true]
      exact low_kept h
    · split
      · exact letters_kept _ _
      · rfl
theorem keep_ne {c : UInt8} (h : keepC c = true) : c ≠ 32 ∧ c ≠ 10 := by
  constructor <;> (rintro rfl; revert h; decide)
theorem fStep_blank (st : List UInt8 × Bool) : fStep st 32 = (st.1, true) := by unfold fStep; rw [if_pos rfl]
theorem fStep_byte (st : List UInt8 × Bool) {c : UInt8} (h : c ≠ 32) : fStep st c = (st.1 ++ (if st.2 = true ∧ st.1 ≠ [] then [32] else []) ++ [c], false) := by unfold fStep; rw [if_neg h]
theorem fold_piece : ∀ (p : List UInt8) (out : List UInt8), p.all keepC = true → p.foldl fStep (out, false) = (out ++ p, false)
  | [], out, _ => by simp
  | c :: p, out, h => by
    rw [List.all_cons, Bool.and_eq_true] at h
    rw [List.foldl_cons, fStep_byte _ (keep_ne h.1).1, fold_piece p _ h.2]
    simp
theorem fold_piece' {p : List UInt8} (hp : p ≠ []) (out : List UInt8) (ap : Bool) (h : p.all keepC = true) : p.foldl fStep (out, ap) = (out ++ (if ap = true ∧ out ≠ [] then [32] else []) ++ p, false) := by
  cases p with
  | nil => exact absurd rfl hp
  | cons c p =>
    rw [List.all_cons, Bool.and_eq_true] at h
    rw [List.foldl_cons, fStep_byte _ (keep_ne h.1).1, fold_piece p _ h.2]
    simp
theorem foldGo_conv (s : ByteArray) : ∀ n i out ap, foldGo s n i out ap = ((conv s n i).foldl fStep (out, ap)).1
  | 0, i, out, ap => rfl
  | n + 1, i, out, ap => by
    rw [foldGo, conv]
    by_cases h : i < s.size
    · rw [if_pos h, if_pos h]
      by_cases h0 : (foldAt s i).1 = []
      · rw [if_pos h0, if_pos h0, foldGo_conv s n, List.foldl_append, List.foldl_cons, List.foldl_nil, fStep_blank]
      · rw [if_neg h0, if_neg h0, foldGo_conv s n, List.foldl_append, fold_piece' h0 _ _ (foldAt_kept s i)]
    · rw [if_neg h, if_neg h]; rfl
theorem foldL_conv (s : ByteArray) : foldL s = (fRun (conv s s.size 0)).1 := foldGo_conv s _ _ _ _
def Normal (l : List UInt8) : Prop := fRun l = (l, false) ∧ ∀ c ∈ l, keepC c = true ∨ c = 32
theorem normal_nil : Normal [] := ⟨rfl, by simp⟩
theorem fRun_snoc (l : List UInt8) (c : UInt8) : fRun (l ++ [c]) = fStep (fRun l) c := by unfold fRun; rw [List.foldl_append]; rfl
theorem normal_step {out : List UInt8} (ap : Bool) (h : Normal out) {c : UInt8} (hc : keepC c = true) : Normal (out ++ (if ap = true ∧ out ≠ [] then [32] else []) ++ [c]) := by
  obtain ⟨h1, h2⟩ := h
  have hne := (keep_ne hc).1
  by_cases e : ap = true ∧ out ≠ []
  · rw [if_pos e]
    refine ⟨?_, ?_⟩
    · rw [fRun_snoc, fRun_snoc, h1, fStep_blank, fStep_byte _ hne]
      simp [e.2]
    · intro d hd
      simp only [List.mem_append, List.mem_singleton] at hd
      rcases hd with (hd | hd) | hd
      · exact h2 d hd
      · exact .inr hd
      · subst hd; exact .inl hc
  · rw [if_neg e]
    refine ⟨?_, ?_⟩
    · rw [List.append_nil, fRun_snoc, h1, fStep_byte _ hne]
      simp
    · intro d hd
      simp only [List.mem_append, List.mem_singleton, List.append_nil] at hd
      rcases hd with hd | hd
      · exact h2 d hd
      · subst hd; exact .inl hc
theorem normal_run : ∀ (l : List UInt8) (st : List UInt8 × Bool), Normal st.1 → (∀ c ∈ l, keepC c = true ∨ c = 32) → Normal (l.foldl fStep st).1
  | [], st, h, _ => h
  | c :: l, st, h, hl => by
    rw [List.foldl_cons]
    refine normal_run l _ ?_ (fun d hd => hl d (List.mem_cons_of_mem _ hd))
    by_cases hc : c = 32
    · subst hc; rw [fStep_blank]; exact h
    · rw [fStep_byte _ hc]
      exact normal_step st.2 h ((hl c (List.mem_cons_self ..)).resolve_right hc)
theorem conv_bytes (s : ByteArray) : ∀ n i, ∀ c ∈ conv s n i, keepC c = true ∨ c = 32
  | 0, i, c, h => by simp [conv] at h
  | n + 1, i, c, h => by
    rw [conv] at h
    by_cases hi : i < s.size
    · rw [if_pos hi, List.mem_append] at h
      rcases h with h | h
      · by_cases h0 : (foldAt s i).1 = []
        · rw [if_pos h0] at h; right; simpa using h
        · rw [if_neg h0] at h; left; exact List.all_eq_true.1 (foldAt_kept s i) c h
      · exact conv_bytes s n _ c h
    · rw [if_neg hi] at h; simp at h
theorem foldL_normal (s : ByteArray) : Normal (foldL s) := by
  rw [foldL_conv]
  exact normal_run _ ([], false) normal_nil (conv_bytes s _ _)
theorem letters_blank (b : Int) : lettersP 32 b = [] := rfl
theorem conv_self (s : ByteArray) (h : ∀ c ∈ s.data.toList, keepC c = true ∨ c = 32) : ∀ n i, s.size ≤ i + n → conv s n i = s.data.toList.drop i
  | 0, i, hn => by rw [conv, List.drop_of_length_le (by simp; omega)]
  | n + 1, i, hn => by
    rw [conv]
    by_cases hi : i < s.size
    · rw [if_pos hi]
      have hb := byteAt_eq hi
      have hm : s[i] ∈ s.data.toList := Array.mem_toList_iff.2 (Array.getElem_mem (xs := s.data) hi)
      have hd : s.data.toList.drop i = s[i] :: s.data.toList.drop (i + 1) := by
        rw [List.drop_eq_getElem_cons (by simpa using hi)]; rfl
      rcases h _ hm with hk | hk
      · have e : foldAt s i = ([s[i]], 1) := by
          unfold foldAt; rw [hb, if_pos (show keptB (s[i].toNat : Int) = true from hk)]
        rw [e, conv_self s h n (i + 1) (by omega), hd]
        simp
      · have e : foldAt s i = ([], 1) := by
          unfold foldAt
          rw [hb, hk, if_neg (by decide), if_neg (by decide), if_neg (fun h => h.2 (letters_blank _))]
        rw [e, conv_self s h n (i + 1) (by omega), hd, hk]
        simp
    · rw [if_neg hi, List.drop_of_length_le (by simp; omega)]
theorem normal_fold {s : ByteArray} (h : Normal s.data.toList) : foldL s = s.data.toList := by
  rw [foldL_conv, conv_self s h.2 _ _ (by omega), List.drop_zero, h.1]
theorem fold_normal {s : ByteArray} (h : foldL s = s.data.toList) : Normal s.data.toList := by
  rw [← h]; exact foldL_normal s
/-! Words, with one blank between two. -/
def joinB : List (List UInt8) → List UInt8
  | [] => []
  | [x] => x
  | x :: y :: r => x ++ 32 :: joinB (y :: r)
theorem joinB_snoc : ∀ (l : List (List UInt8)) (x : List UInt8), l ≠ [] → joinB (l ++ [x]) = joinB l ++ 32 :: x
  | [], x, h => absurd rfl h
  | [y], x, _ => rfl
  | y :: z :: r, x, _ => by
    show y ++ 32 :: joinB (z :: r ++ [x]) = _
    rw [joinB_snoc (z :: r) x (by simp)]
    show _ = (y ++ 32 :: joinB (z :: r)) ++ 32 :: x
    simp
theorem joinB_snoc_more : ∀ (l : List (List UInt8)) (x : List UInt8) (c : UInt8), joinB (l ++ [x ++ [c]]) = joinB (l ++ [x]) ++ [c]
  | [], x, c => rfl
  | [y], x, c => by show y ++ 32 :: (x ++ [c]) = (y ++ 32 :: x) ++ [c]; simp
  | y :: z :: r, x, c => by
    show y ++ 32 :: joinB (z :: r ++ [x ++ [c]]) = (y ++ 32 :: joinB (z :: r ++ [x])) ++ [c]
    rw [joinB_snoc_more (z :: r) x c]; simp
theorem joinB_ne : ∀ (l : List (List UInt8)), l ≠ [] → (∀ x ∈ l, x ≠ []) → joinB l ≠ []
  | [], h, _ => absurd rfl h
  | [x], _, h => h x (by simp)
  | x :: y :: r, _, h => by
    show x ++ 32 :: joinB (y :: r) ≠ []
    simp
def wl (l : List ByteArray) : List (List UInt8) := l.map fun b => b.data.toList
theorem wl_snoc (l : List ByteArray) (x : ByteArray) : wl (l ++ [x]) = wl l ++ [x.data.toList] := by simp [wl]
def WInv (s : ByteArray) (k : Nat) (st : List ByteArray × Nat) : Prop :=
  (∀ x ∈ wl st.1, x ≠ []) ∧ st.2 ≤ k ∧ (st.1 ≠ [] → 0 < k) ∧
  fRun (s.data.toList.take k) = if st.2 < k then (joinB (wl st.1 ++ [(s.data.toList.drop st.2).take (k - st.2)]), false) else (joinB (wl st.1), decide (0 < k))
theorem winv (s : ByteArray) : ∀ k, k ≤ s.size → WInv s k (wordsTo s k)
  | 0, _ => ⟨by simp [wordsTo, wl], by simp [wordsTo], by simp [wordsTo], rfl⟩
  | k + 1, hk => by
    have ih := winv s k (by omega)
    rw [wordsTo]
    generalize wordsTo s k = st at ih
    obtain ⟨ws, f⟩ := st
    obtain ⟨h1, h2, h3, h4⟩ := ih
    simp only at h1 h2 h3 h4
    have hlt : k < s.size := by omega
    have htk : s.data.toList.take (k + 1) = s.data.toList.take k ++ [s[k]] := by
      rw [List.take_succ_eq_append_getElem (by simpa using hlt)]; rfl
    unfold WInv wStep
    rw [htk, fRun_snoc, h4, getD_32 hlt]
    have hl : s.data.toList.length = s.size := by simp
    have hde : ∀ g, g ≤ k → (s.data.toList.drop g).take (k + 1 - g) = (s.data.toList.drop g).take (k - g) ++ [s[k]] := by
      intro g hg
      rw [show k + 1 - g = (k - g) + 1 from by omega, List.take_succ_eq_append_getElem (by rw [List.length_drop]; omega)]
      congr 2
      rw [List.getElem_drop]
      have : g + (k - g) = k := by omega
      simp only [this]
      rfl
    by_cases hb : s[k] = 32
    · rw [if_pos hb]
      simp only
      rw [hb, fStep_blank]
      by_cases hf : f < k
      · rw [if_pos hf, if_pos hf]
        have hx : (s.extract f k).data.toList = (s.data.toList.drop f).take (k - f) := by
          rw [ByteArray.data_extract, Array.toList_extract, List.extract_eq_take_drop]
        refine ⟨?_, by omega, fun _ => by omega, ?_⟩
        · intro x hxm
          rw [wl_snoc, List.mem_append, List.mem_singleton] at hxm
          rcases hxm with hxm | rfl
          · exact h1 x hxm
          · rw [hx]
            apply List.ne_nil_of_length_pos
            rw [List.length_take, List.length_drop]; omega
        · rw [if_neg (by omega), wl_snoc, hx]
          simp
      · rw [if_neg hf, if_neg hf]
        refine ⟨h1, by omega, fun _ => by omega, ?_⟩
        rw [if_neg (by omega)]
        simp
    · rw [if_neg hb]
      simp only
      rw [fStep_byte _ hb]
      refine ⟨h1, by omega, fun _ => by omega, ?_⟩
      rw [if_pos (show f < k + 1 by omega), hde f h2]
      by_cases hf : f < k
      · rw [if_pos hf]
        simp only [Bool.false_eq_true, false_and, if_false, List.append_nil]
        rw [joinB_snoc_more]
      · obtain rfl : f = k := by omega
        rw [if_neg hf]
        simp only [Nat.sub_self, List.take_zero, List.nil_append]
        by_cases hw : ws = []
        · subst hw
          simp [wl, joinB]
        · have hwl : wl ws ≠ [] := by unfold wl; simpa using hw
          have hj := joinB_ne _ hwl h1
          have h0 := h3 hw
          rw [joinB_snoc _ _ hwl]
          simp [hj, h0]
theorem join_words (s : ByteArray) : joinB (wl (wordsB s)) = (fRun s.data.toList).1 := by
  have h := winv s s.size (Nat.le_refl _)
  unfold wordsB
  rw [wordsTo]
  generalize wordsTo s s.size = st at h
  obtain ⟨ws, f⟩ := st
  obtain ⟨h1, h2, h3, h4⟩ := h
  simp only at h1 h2 h3 h4
  rw [List.take_of_length_le (by simp)] at h4
  rw [h4]
  unfold wStep
  rw [getD_32_out (Nat.le_refl _), if_pos rfl]
  simp only
  by_cases hf : f < s.size
  · rw [if_pos hf, if_pos hf, wl_snoc]
    have hx : (s.extract f s.size).data.toList = (s.data.toList.drop f).take (s.size - f) := by
      rw [ByteArray.data_extract, Array.toList_extract, List.extract_eq_take_drop]
    rw [hx]
  · rw [if_neg hf, if_neg hf]
/-! Lines. -/
def joinN : List (List UInt8) → List UInt8
  | [] => []
  | [x] => x
  | x :: y :: r => x ++ 10 :: joinN (y :: r)
end Go.Proofs.YtdcpmnkebhilpaaGreatDoor
