/-
  Plain laws for LexBack: how long folded texts and lines are; the tokens of a line, with one blank between two, are the line.
-/
import Derived.Test.YtenenmlgnifelaaDoorAl
import Derived.Test.YtenenmlgnifelaaDoorCp
namespace Go.Proofs.YtenenmlgnifelaaDoor
set_option linter.unusedVariables false
theorem letters_two (a b : Int) : (lettersP a b).length ≤ 2 := by
  unfold lettersP lettersPT
  repeat' (refine len_ite ?_ ?_)
  all_goals decide
theorem foldAt_len (s : ByteArray) (i : Nat) : (foldAt s i).1.length ≤ (foldAt s i).2 ∧ (i < s.size → i + (foldAt s i).2 ≤ s.size) := by
  unfold foldAt
  split
  · exact ⟨by simp, fun h => by simp; omega⟩
  · split
    · exact ⟨by simp, fun h => by simp; omega⟩
    · split
      · rename_i h
        exact ⟨letters_two _ _, fun h' => by show i + 2 ≤ s.size; omega⟩
      · exact ⟨by simp, fun h => by simp; omega⟩
theorem foldGo_le (s : ByteArray) : ∀ n i out ap, out.length + (if ap = true ∧ out ≠ [] then 1 else 0) ≤ i → i ≤ s.size → (foldGo s n i out ap).length ≤ s.size := by
  intro n
  induction n with
  | zero => intro i out ap h hi; rw [foldGo]; split at h <;> omega
  | succ n ih =>
    intro i out ap h hi
    rw [foldGo]
    have h2 := foldAt_len s i
    have h3 := foldAt_two s i
    by_cases hlt : i < s.size
    · rw [if_pos hlt]
      split
      · refine ih _ _ _ ?_ (h2.2 hlt)
        split at h <;> split <;> omega
      · refine ih _ _ _ ?_ (h2.2 hlt)
        have : (if ap = true ∧ out ≠ [] then [(32 : UInt8)] else []).length = (if ap = true ∧ out ≠ [] then 1 else 0) := by split <;> rfl
        simp only [List.length_append, this, Bool.false_eq_true, false_and, if_false]
        omega
    · rw [if_neg hlt]; split at h <;> omega
theorem foldL_le (s : ByteArray) : (foldL s).length ≤ s.size := foldGo_le s s.size 0 [] false (by simp) (Nat.zero_le _)
theorem splitGo_len : ∀ n r, r.length ≤ n → (splitGo n r).length = r.count 10 + 1 ∧ ∀ p ∈ splitGo n r, p.length ≤ r.length := by
  intro n
  induction n with
  | zero =>
    intro r h
    obtain rfl : r = [] := List.length_eq_zero_iff.1 (by omega)
    exact ⟨rfl, by simp [splitGo]⟩
  | succ n ih =>
    intro r h
    rw [splitGo]
    by_cases e : Lib.indexByte r 10 = -1
    · rw [if_pos e]
      have : (10 : UInt8) ∉ r := fun hm => by
        obtain ⟨k, hk⟩ := List.mem_iff_getElem?.1 hm
        exact Lib.indexByte_none e k hk
      exact ⟨by rw [List.count_eq_zero.2 this]; rfl, by simp⟩
    · rw [if_neg e]
      obtain ⟨i, hi⟩ : ∃ i : Nat, Lib.indexByte r 10 = i := ⟨(Lib.indexByte r 10).toNat, by have := Lib.indexByte_ge r 10; omega⟩
      rw [hi, Int.toNat_natCast]
      obtain ⟨hb, hno⟩ := Lib.indexByte_some hi
      have hlt := (List.getElem?_eq_some_iff.1 hb).1
      obtain ⟨h1, h2⟩ := ih (r.drop (i + 1)) (by simp; omega)
      have ht : (r.take i).count 10 = 0 := List.count_eq_zero.2 fun hm => by
        obtain ⟨k, hk, he⟩ := List.mem_take_iff_getElem.1 hm
        exact hno k (by omega) (by rw [List.getElem?_eq_getElem (by omega), he])
      have ec : r.count 10 = (r.drop (i + 1)).count 10 + 1 := by
        conv => lhs; rw [byte_at_index hb, List.count_append, ht, List.count_cons]
        simp
      refine ⟨by rw [List.length_cons, h1, ec], fun p hp => ?_⟩
      rcases List.mem_cons.1 hp with rfl | hp
      · rw [List.length_take]; omega
      · have := h2 p hp
        rw [List.length_drop] at this
        omega
theorem many_lines {s : ByteArray} (h : 6 < (linesB s).length) : 5 < s.data.toList.count 10 := by
  have h1 := linesOf_len (splitL s.data.toList)
  have h2 := (splitGo_len s.data.toList.length s.data.toList (Nat.le_refl _)).1
  unfold linesB at h
  unfold splitL at h1 h
  omega
theorem long_lines {s : ByteArray} (h : longB (linesB s) = true) : 60 < s.size := by
  unfold longB at h
  rw [List.any_eq_true] at h
  obtain ⟨b, hb, h60⟩ := h
  unfold linesB linesOf at hb
  rw [List.mem_filter, List.mem_map] at hb
  obtain ⟨⟨l, hl, rfl⟩, _⟩ := hb
  have h1 := (splitGo_len s.data.toList.length s.data.toList (Nat.le_refl _)).2 l hl
  have h2 := foldL_le ⟨l.toArray⟩
  have h3 : (⟨l.toArray⟩ : ByteArray).size = l.length := by simp [ByteArray.size]
  have h4 : (⟨(foldL ⟨l.toArray⟩).toArray⟩ : ByteArray).size = (foldL ⟨l.toArray⟩).length := by simp [ByteArray.size]
  simp only [decide_eq_true_eq, h4] at h60
  simp only [Array.length_toList] at h1
  have : s.data.size = s.size := rfl
  omega
/-! How many words there are. -/
def wsum (ls : List ByteArray) : Nat := (ls.map fun s => (wordsB s).length).sum
theorem toks_len : ∀ (ls : List ByteArray) (n : Nat), (toksFrom n ls).length = wsum ls
  | [], n => rfl
  | s :: r, n => by
    show (lineToks n s ++ toksFrom (n + 1) r).length = _
    rw [List.length_append, lineToks_len, toks_len r, ← wordsB_len]
    rfl
theorem wsum_take (ls : List ByteArray) (k : Nat) (h : k < ls.length) : wsum (ls.take (k + 1)) = wsum (ls.take k) + (wordsB ls[k]).length := by
  unfold wsum
  rw [List.take_succ_eq_append_getElem h, List.map_append, List.sum_append]
  simp
theorem wsum_le (ls : List ByteArray) (h : ∀ s ∈ ls, s.size ≤ 1000) : wsum ls ≤ ls.length * 1001 := by
  unfold wsum
  induction ls with
  | nil => simp
  | cons s r ih =>
    have h1 := (wordsTo_le s (s.size + 1)).2
    have h2 := h s (by simp)
    have h3 := ih (fun x hx => h x (List.mem_cons_of_mem _ hx))
    simp only [List.map_cons, List.sum_cons, List.length_cons]
    unfold wordsB at *
    omega
/-! The text of a line, out of its tokens. -/
def addW (c w : List UInt8) : List UInt8 := (if c = [] then [] else c ++ [32]) ++ w
def posW (c : List UInt8) : Nat := if c = [] then 0 else c.length + 1
theorem posW_len (c w : List UInt8) : (addW c w).length = posW c + w.length := by
  unfold addW posW
  split
  · simp
  · simp; omega
def joinFrom (c : List UInt8) (ws : List (List UInt8)) : List UInt8 := ws.foldl addW c
theorem joinFrom_snoc (c : List UInt8) (ws : List (List UInt8)) (w : List UInt8) : joinFrom c (ws ++ [w]) = addW (joinFrom c ws) w := by
  unfold joinFrom; rw [List.foldl_append]; rfl
theorem joinFrom_take {ws : List (List UInt8)} (h : ∀ x ∈ ws, x ≠ []) : ∀ k, k ≤ ws.length → joinFrom [] (ws.take k) = joinB (ws.take k)
  | 0, _ => rfl
  | k + 1, hk => by
    rw [List.take_succ_eq_append_getElem (by omega), joinFrom_snoc, joinFrom_take h k (by omega)]
    have hall : ∀ x ∈ ws.take k, x ≠ [] := fun x hx => h x (List.mem_of_mem_take hx)
    by_cases hk0 : k = 0
    · subst hk0; rfl
    · have hne : ws.take k ≠ [] := List.ne_nil_of_length_pos (by rw [List.length_take]; omega)
      rw [joinB_snoc _ _ hne]
      unfold addW
      rw [if_neg (joinB_ne _ hne hall)]
      simp
theorem joinFrom_nil {ws : List (List UInt8)} (h : ∀ x ∈ ws, x ≠ []) {k : Nat} (hk : k ≤ ws.length) : joinFrom [] (ws.take k) = [] ↔ k = 0 := by
  rw [joinFrom_take h k hk]
  constructor
  · intro e
    by_cases hk0 : k = 0
    · exact hk0
    · exact absurd e (joinB_ne _ (List.ne_nil_of_length_pos (by rw [List.length_take]; omega)) (fun x hx => h x (List.mem_of_mem_take hx)))
  · rintro rfl; rfl
theorem joinFrom_whole {ws : List (List UInt8)} (h : ∀ x ∈ ws, x ≠ []) : joinFrom [] ws = joinB ws := by
  have := joinFrom_take h ws.length (Nat.le_refl _)
  rwa [List.take_length] at this
theorem joinFrom_prefix (c : List UInt8) : ∀ (ws : List (List UInt8)) (vs : List (List UInt8)), joinFrom c ws <+: joinFrom c (ws ++ vs) := by
  intro ws vs
  unfold joinFrom
  rw [List.foldl_append]
  generalize ws.foldl addW c = d
  induction vs generalizing d with
  | nil => exact List.prefix_refl _
  | cons v r ih =>
    refine List.IsPrefix.trans ?_ (ih (addW d v))
    unfold addW
    split
    · rename_i h; subst h; exact List.nil_prefix
    · rw [List.append_assoc]; exact List.prefix_append _ _
theorem word_ne (s : ByteArray) : ∀ x ∈ wl (wordsB s), x ≠ [] := by
  intro x hx
  obtain ⟨b, hb, rfl⟩ := List.mem_map.1 hx
  obtain ⟨j, hj, rfl⟩ := List.mem_iff_getElem.1 hb
  rw [wordsB_get s j hj, cutOut_list]
  have h := spans_at s j (by rw [← wordsB_len]; exact hj)
  apply List.ne_nil_of_length_pos
  have := h.lt
  have := h.sz
  simp only [List.length_take, List.length_drop, Array.length_toList]
  have : s.data.size = s.size := rfl
  omega
theorem wl_len (s : ByteArray) : (wl (wordsB s)).length = (spans s).length := by unfold wl; rw [List.length_map, wordsB_len]
theorem wl_get (s : ByteArray) (j : Nat) (h : j < (wl (wordsB s)).length) : (wl (wordsB s))[j] = (s.data.toList.drop ((spans s).getD j (0, 0)).1).take (((spans s).getD j (0, 0)).2 - ((spans s).getD j (0, 0)).1) := by
  unfold wl at h ⊢
  rw [List.getElem_map, wordsB_get s j (by simpa using h), cutOut_list]
theorem wl_get_len (s : ByteArray) (j : Nat) (h : j < (wl (wordsB s)).length) : (wl (wordsB s))[j].length = ((spans s).getD j (0, 0)).2 - ((spans s).getD j (0, 0)).1 := by
  rw [wl_get s j h]
  have h1 := (spans_at s j (by rw [← wl_len]; exact h)).sz
  have : s.data.size = s.size := rfl
  simp only [List.length_take, List.length_drop, Array.length_toList]
  omega
theorem getD_prefix {a b : List UInt8} (h : a <+: b) {i : Nat} (hi : i < a.length) (d : UInt8) : b.getD i d = a.getD i d := by
  obtain ⟨t, rfl⟩ := h
  simp only [List.getD_eq_getElem?_getD]
  rw [List.getElem?_append_left hi]
theorem take_head {s : ByteArray} {a b : Nat} (hab : a < b) (hb : b ≤ s.size) : ((s.data.toList.drop a).take (b - a)).getD 0 32 = bt s a := by
  rw [List.getD_eq_getElem?_getD, List.getElem?_take_of_lt (by omega), List.getElem?_drop, Nat.add_zero, bt_get (by omega)]
  rfl
theorem getD_mid {c w : List UInt8} {i : Nat} (h : c.length = i) : (c ++ [32] ++ w).getD i 32 = 32 := by
  subst h
  rw [List.getD_eq_getElem?_getD, List.append_assoc, List.getElem?_append_right (Nat.le_refl _)]
  simp
/-- In a folded text the words stand where the text that is made of the words before them ends. -/
theorem span_pos {s : ByteArray} (hn : Normal s.data.toList) : ∀ j, j < (spans s).length → ((spans s).getD j (0, 0)).1 = posW (joinFrom [] ((wl (wordsB s)).take j)) := by
  have hne := word_ne s
  have hlen := wl_len s
  have hwhole : joinFrom [] (wl (wordsB s)) = s.data.toList := by rw [joinFrom_whole hne, normal_words hn]
  have hpre : ∀ k, joinFrom [] ((wl (wordsB s)).take k) <+: s.data.toList := fun k => by
    have := joinFrom_prefix [] ((wl (wordsB s)).take k) ((wl (wordsB s)).drop k)
    rwa [List.take_append_drop, hwhole] at this
  have hbyte : ∀ j (hj : j < (spans s).length), bt s (posW (joinFrom [] ((wl (wordsB s)).take j))) ≠ 32 := fun j hj => by
    have hj' : j < (wl (wordsB s)).length := by omega
    have e : joinFrom [] ((wl (wordsB s)).take (j + 1)) = addW (joinFrom [] ((wl (wordsB s)).take j)) (wl (wordsB s))[j] := by
      rw [List.take_succ_eq_append_getElem hj', joinFrom_snoc]
    have hp := hpre (j + 1)
    have hl := posW_len (joinFrom [] ((wl (wordsB s)).take j)) (wl (wordsB s))[j]
    have hwl := wl_get_len s j hj'
    have hsp := spans_at s j hj
    have hlt := hsp.lt
    have hsz := hsp.sz
    rw [e] at hp
    unfold bt
    rw [getD_prefix hp (by omega)]
    have e2 : (addW (joinFrom [] ((wl (wordsB s)).take j)) (wl (wordsB s))[j]).getD (posW (joinFrom [] ((wl (wordsB s)).take j))) 32 = (wl (wordsB s))[j].getD 0 32 := by
      unfold addW posW
      split
      · simp
      · simp only [List.getD_eq_getElem?_getD]
        rw [List.getElem?_append_right (by simp)]
        simp
    rw [e2, wl_get s j hj', take_head hlt hsz]
    exact hsp.ins ((spans s).getD j (0, 0)).1 (Nat.le_refl _) hlt
  intro j
  induction j with
  | zero =>
    intro hj
    have hsp := spans_at s 0 hj
    have hb := hbyte 0 hj
    show _ = 0
    by_cases e : ((spans s).getD 0 (0, 0)).1 = 0
    · exact e
    · exact absurd (hsp.gap 0 (by simp [endOf]) (by omega)) hb
  | succ j ih =>
    intro hj
    have ihj := ih (by omega)
    have hj' : j < (wl (wordsB s)).length := by omega
    have hsp := spans_at s (j + 1) hj
    have hsp0 := spans_at s j (by omega)
    have hb := hbyte (j + 1) hj
    have hl := posW_len (joinFrom [] ((wl (wordsB s)).take j)) (wl (wordsB s))[j]
    have hwl := wl_get_len s j hj'
    have e : joinFrom [] ((wl (wordsB s)).take (j + 1)) = addW (joinFrom [] ((wl (wordsB s)).take j)) (wl (wordsB s))[j] := by
      rw [List.take_succ_eq_append_getElem hj', joinFrom_snoc]
    have hnn : ¬ joinFrom [] ((wl (wordsB s)).take (j + 1)) = [] := fun h => by
      have := (joinFrom_nil hne (k := j + 1) (by omega)).1 h
      omega
    have hq : posW (joinFrom [] ((wl (wordsB s)).take (j + 1))) = ((spans s).getD j (0, 0)).2 + 1 := by
      have hlt := hsp0.lt
      have : (joinFrom [] ((wl (wordsB s)).take (j + 1))).length = ((spans s).getD j (0, 0)).2 := by rw [e, hl, hwl, ← ihj]; omega
      unfold posW
      rw [if_neg hnn, this]
    have hend : endOf (spans s) (j + 1) = ((spans s).getD j (0, 0)).2 := by unfold endOf; simp
    have hj2 : j + 1 < (wl (wordsB s)).length := by omega
    have h32 : bt s ((spans s).getD j (0, 0)).2 = 32 := by
      have hp := hpre (j + 2)
      have e2 : joinFrom [] ((wl (wordsB s)).take (j + 2)) = addW (joinFrom [] ((wl (wordsB s)).take (j + 1))) (wl (wordsB s))[j + 1] := by
        rw [List.take_succ_eq_append_getElem hj2, joinFrom_snoc]
      rw [e2] at hp
      have hq' := hq
      unfold posW at hq'
      rw [if_neg hnn] at hq'
      have hl2 : (joinFrom [] ((wl (wordsB s)).take (j + 1))).length = ((spans s).getD j (0, 0)).2 := by omega
      unfold bt
      rw [getD_prefix hp (by rw [posW_len]; omega)]
      unfold addW
      rw [if_neg hnn]
      exact getD_mid hl2
    rw [hq]
    have hle := hsp.le
    rw [hend] at hle
    rw [hq] at hb
    by_cases h1 : ((spans s).getD (j + 1) (0, 0)).1 = ((spans s).getD j (0, 0)).2
    · exact absurd h32 (by rw [← h1]; exact hsp.ins _ (Nat.le_refl _) hsp.lt)
    · by_cases h2 : ((spans s).getD (j + 1) (0, 0)).1 = ((spans s).getD j (0, 0)).2 + 1
      · exact h2
      · exact absurd (hsp.gap (((spans s).getD j (0, 0)).2 + 1) (by rw [hend]; omega) (by omega)) hb
/-! All lines. -/
def backStep (ts : List (List UInt8)) (t : Tok) : List (List UInt8) := ts.set t.2.1 (addW (ts.getD t.2.1 []) t.1.data.toList)
def BackOk (n : Nat) : List Tok → List (List UInt8) → Nat → Prop
  | [], _, _ => True
  | t :: r, ts, q => q ≤ t.2.1 ∧ t.2.1 < n ∧ t.2.2 = posW (ts.getD t.2.1 []) ∧ BackOk n r (backStep ts t) t.2.1
theorem BackOk.mono {n : Nat} : ∀ {T : List Tok} {ts : List (List UInt8)} {q q' : Nat}, BackOk n T ts q → q' ≤ q → BackOk n T ts q'
  | [], _, _, _, _, _ => trivial
  | t :: r, ts, q, q', h, hq => ⟨Nat.le_trans hq h.1, h.2⟩
theorem BackOk.app {n : Nat} : ∀ {A B : List Tok} {ts : List (List UInt8)} {q q' : Nat}, BackOk n A ts q → (∀ t ∈ A, t.2.1 ≤ q') → q ≤ q' → BackOk n B (A.foldl backStep ts) q' → BackOk n (A ++ B) ts q
  | [], B, ts, q, q', _, _, hq, hB => hB.mono hq
  | t :: r, B, ts, q, q', hA, hl, hq, hB => ⟨hA.1, hA.2.1, hA.2.2.1, BackOk.app hA.2.2.2 (fun x hx => hl x (List.mem_cons_of_mem _ hx)) (hl t (List.mem_cons_self ..)) hB⟩
theorem BackOk.at_ {n : Nat} : ∀ {T : List Tok} {ts : List (List UInt8)} {q : Nat}, BackOk n T ts q → ∀ i (h : i < T.length), T[i].2.1 < n ∧ T[i].2.2 = posW (((T.take i).foldl backStep ts).getD T[i].2.1 []) ∧ (∀ (h0 : 0 < i), (T[i - 1]'(by omega)).2.1 ≤ T[i].2.1)
  | [], _, _, _, i, h => by simp at h
  | t :: r, ts, q, hb, 0, h => ⟨hb.2.1, hb.2.2.1, fun h0 => by omega⟩
  | t :: r, ts, q, hb, i + 1, h => by
    have := BackOk.at_ hb.2.2.2 i (by simpa using h)
    refine ⟨this.1, this.2.1, fun _ => ?_⟩
    cases i with
    | zero =>
      have h2 := hb.2.2.2
      cases r with
      | nil => simp at h
      | cons x r => exact h2.1
    | succ i => exact this.2.2 (by omega)
theorem back_line (n q : Nat) : ∀ (TT : List Tok) (ts : List (List UInt8)) (c : List UInt8), ts.length = n → q < n → ts.getD q [] = c →
    (∀ j (h : j < TT.length), TT[j].2.1 = q ∧ TT[j].2.2 = posW (joinFrom c ((TT.take j).map fun t => t.1.data.toList))) →
    BackOk n TT ts q ∧ TT.foldl backStep ts = ts.set q (joinFrom c (TT.map fun t => t.1.data.toList)) := by
  intro TT
  induction TT with
  | nil =>
    intro ts c hl hq hc _
    refine ⟨trivial, ?_⟩
    show ts = ts.set q c
    rw [← hc, List.getD_eq_getElem?_getD, List.getElem?_eq_getElem (by omega)]
    simp
  | cons t r ih =>
    intro ts c hl hq hc h
    obtain ⟨h1, h2⟩ := h 0 (by simp)
    simp only [List.getElem_cons_zero, List.take_zero, List.map_nil] at h1 h2
    have hst : backStep ts t = ts.set q (addW c t.1.data.toList) := by unfold backStep; rw [h1, hc]
    obtain ⟨i1, i2⟩ := ih (backStep ts t) (addW c t.1.data.toList) (by rw [hst]; simp [hl]) hq (by
      rw [hst, List.getD_eq_getElem?_getD, List.getElem?_set_self (by omega)]; rfl) (fun j hj => by
      have := h (j + 1) (by simp; omega)
      simpa [joinFrom] using this)
    refine ⟨⟨by omega, by omega, by rw [h2, h1, hc]; rfl, by rw [h1]; exact i1⟩, ?_⟩
    rw [List.foldl_cons, i2, hst, List.set_set]
    rfl
theorem lineToks_get (q : Nat) (s : ByteArray) (j : Nat) (h : j < (lineToks q s).length) : (lineToks q s)[j] = (cutOut s ((spans s).getD j (0, 0)), q, ((spans s).getD j (0, 0)).1) := by
  unfold lineToks at h ⊢
  rw [List.getElem_map]
  have hj : j < (spans s).length := by simpa using h
  rw [List.getD_eq_getElem?_getD, List.getElem?_eq_getElem hj]
  rfl
theorem lineToks_words (q : Nat) (s : ByteArray) : (lineToks q s).map (fun t => t.1.data.toList) = wl (wordsB s) := by
  unfold lineToks wl
  rw [wordsB_spans, List.map_map, List.map_map]
  rfl
theorem back_all : ∀ (ls : List ByteArray) (A : List (List UInt8)) (n : Nat), n = A.length + ls.length → (∀ b ∈ ls, Normal b.data.toList) →
    BackOk n (toksFrom A.length ls) (A ++ List.replicate ls.length []) A.length ∧ (toksFrom A.length ls).foldl backStep (A ++ List.replicate ls.length []) = A ++ wl ls := by
  intro ls
  induction ls with
  | nil => intro A n _ _; exact ⟨trivial, by simp [toksFrom, wl]⟩
  | cons s r ih =>
    intro A n hn hN
    have hs := hN s (List.mem_cons_self ..)
    have hn' : n = A.length + (r.length + 1) := by rw [hn]; rfl
    have hq : A.length < n := by omega
    have hst : A ++ List.replicate (s :: r).length [] = A ++ ([] : List UInt8) :: List.replicate r.length [] := by rw [List.length_cons, List.replicate_succ]
    rw [hst]
    obtain ⟨b1, b2⟩ := back_line n A.length (lineToks A.length s) (A ++ ([] : List UInt8) :: List.replicate r.length []) [] (by simp; omega) hq (by simp [List.getD_eq_getElem?_getD]) (fun j hj => by
      rw [lineToks_get]
      refine ⟨rfl, ?_⟩
      have hj' : j < (spans s).length := by rw [lineToks_len] at hj; exact hj
      rw [List.map_take, lineToks_words]
      exact span_pos hs j hj')
    have e : (A ++ ([] : List UInt8) :: List.replicate r.length []).set A.length (joinFrom [] ((lineToks A.length s).map fun t => t.1.data.toList)) = (A ++ [s.data.toList]) ++ List.replicate r.length [] := by
      rw [lineToks_words, joinFrom_whole (word_ne s), normal_words hs]
      simp
    rw [e] at b2
    have hA1 : (A ++ [s.data.toList]).length = A.length + 1 := by simp
    obtain ⟨c1, c2⟩ := ih (A ++ [s.data.toList]) n (by rw [hA1]; omega) (fun b hb => hN b (List.mem_cons_of_mem _ hb))
    rw [hA1] at c1 c2
    refine ⟨?_, ?_⟩
    · show BackOk n (lineToks A.length s ++ toksFrom (A.length + 1) r) _ _
      refine b1.app (q' := A.length) (fun t ht => ?_) (Nat.le_refl _) ?_
      · unfold lineToks at ht
        obtain ⟨p, _, rfl⟩ := List.mem_map.1 ht
        exact Nat.le_refl _
      · rw [b2]; exact c1.mono (by omega)
    · show (lineToks A.length s ++ toksFrom (A.length + 1) r).foldl backStep _ = _
      rw [List.foldl_append, b2, c2]
      simp [wl]
/-- The tokens of lines that are folded. -/
theorem back_whole (ls : List ByteArray) (h : ∀ b ∈ ls, Normal b.data.toList) : BackOk ls.length (toksFrom 0 ls) (List.replicate ls.length []) 0 ∧ (toksFrom 0 ls).foldl backStep (List.replicate ls.length []) = wl ls := by
  have := back_all ls [] ls.length (by simp) h
  simpa using this
end Go.Proofs.YtenenmlgnifelaaDoor
