/-
  The reference of layer 8: Code is the program's (of lex, cut down to this seat).
-/
import Derived.Test.YtgdlgfplheeblaaGreatDoorKP
import Derived.RegionTactic
import Derived.ChangeAlike
import Derived.Outline
namespace Go.Proofs.YtgdlgfplheeblaaGreatDoor
open Go.RowKit
set_option linter.unusedVariables false
theorem letter_not_digit {n : Int} (h : isLetter n = true) : isDigit n = false := by unfold isLetter at h; unfold isDigit; simp at h ⊢; omega
/-- A for each letter, 0 for each digit, all else as it is. -/
def shpC (c : UInt8) : UInt8 := if isLetter (c.toNat : Int) then 65 else if isDigit (c.toNat : Int) then 48 else c
theorem shp_letter {c : UInt8} : (shpC c = 65 ↔ isLetter (c.toNat : Int) = true) := by
  unfold shpC
  cases hl : isLetter (c.toNat : Int)
  · rw [if_neg (by simp)]
    cases hd : isDigit (c.toNat : Int)
    · rw [if_neg (by simp)]
      constructor
      · rintro rfl; revert hl; decide
      · intro h; cases h
    · rw [if_pos rfl]; decide
  · simp
theorem shp_digit {c : UInt8} : (shpC c = 48 ↔ isDigit (c.toNat : Int) = true) := by
  unfold shpC
  cases hl : isLetter (c.toNat : Int)
  · rw [if_neg (by simp)]
    cases hd : isDigit (c.toNat : Int)
    · rw [if_neg (by simp)]
      constructor
      · rintro rfl; revert hd; decide
      · intro h; cases h
    · simp
  · rw [if_pos rfl, letter_not_digit hl]; decide
theorem shp_other {c d : UInt8} (h65 : d ≠ 65) (h48 : d ≠ 48) (hl : isLetter (d.toNat : Int) = false) (hd : isDigit (d.toNat : Int) = false) : (shpC c = d ↔ c = d) := by
  unfold shpC
  split
  · rename_i h; exact ⟨fun e => absurd e.symm h65, fun e => by subst e; rw [h] at hl; cases hl⟩
  · split
    · rename_i h; exact ⟨fun e => absurd e.symm h48, fun e => by subst e; rw [h] at hd; cases hd⟩
    · exact Iff.rfl
def patB (ks : List Bool) : List UInt8 := ks.map fun k => if k then 65 else 48
theorem shp_matches : ∀ (l : List UInt8) (ks : List Bool), decide (l.map shpC = patB ks) = matchesB l ks
  | [], [] => rfl
  | [], k :: ks => by simp [patB, matchesB]
  | c :: l, [] => by simp [patB, matchesB]
  | c :: l, k :: ks => by
    have ih := shp_matches l ks
    rw [matchesB, ← ih]
    unfold patB kindB
    cases k
    · simp only [List.map_cons, List.cons.injEq, shp_digit, Bool.false_eq_true, if_false]
      rw [Bool.eq_iff_iff]; simp
    · simp only [List.map_cons, List.cons.injEq, shp_letter, if_true]
      rw [Bool.eq_iff_iff]; simp
/-- What the reference's Code says. -/
def refCodeR (c : Int) (l : List UInt8) : List UInt8 × Bool :=
  if (c = 1 ∧ l.map shpC = [48, 48, 48, 48, 48]) ∨ (c = 2 ∧ l.map shpC = [65, 48, 65, 48, 65, 48]) ∨ (c = 3 ∧ l.map shpC = [48, 48, 48, 48]) then (l, true)
  else if c = 2 ∧ l.length = 7 ∧ l.map shpC = [65, 48, 65, 32, 48, 65, 48] then (l.take 3 ++ l.drop 4, true)
  else ([], false)
theorem shp_blank {c : UInt8} : (shpC c = 32 ↔ c = 32) := shp_other (by decide) (by decide) (by decide) (by decide)
theorem shp_matches' {l : List UInt8} {ks : List Bool} : l.map shpC = patB ks ↔ matchesB l ks = true := by
  rw [← shp_matches, decide_eq_true_eq]
theorem seven {l : List UInt8} (h : l.map shpC = [65, 48, 65, 32, 48, 65, 48]) : ∃ a b, l = a ++ 32 :: b ∧ matchesB a [true, false, true] = true ∧ matchesB b [false, true, false] = true ∧ l.take 3 = a ∧ l.drop 4 = b := by
  rcases l with _ | ⟨c0, l⟩
  · simp at h
  rcases l with _ | ⟨c1, l⟩
  · simp at h
  rcases l with _ | ⟨c2, l⟩
  · simp at h
  rcases l with _ | ⟨c3, l⟩
  · simp at h
  rcases l with _ | ⟨c4, l⟩
  · simp at h
  rcases l with _ | ⟨c5, l⟩
  · simp at h
  rcases l with _ | ⟨c6, l⟩
  · simp at h
  rcases l with _ | ⟨c7, l⟩
  · simp only [List.map_cons, List.map_nil, List.cons.injEq, and_true] at h
    obtain ⟨h0, h1, h2, h3, h4, h5, h6⟩ := h
    exact ⟨[c0, c1, c2], [c4, c5, c6], by rw [shp_blank.1 h3]; rfl, shp_matches'.1 (by simp [patB, h0, h1, h2]), shp_matches'.1 (by simp [patB, h4, h5, h6]), rfl, rfl⟩
  · simp at h
theorem split_uniq : ∀ {a b c d : List UInt8}, a ++ 32 :: b = c ++ 32 :: d → (32 : UInt8) ∉ a → (32 : UInt8) ∉ c → a = c ∧ b = d
  | [], b, [], d, h, _, _ => ⟨rfl, by simpa using h⟩
  | [], b, x :: c, d, h, _, hc => by simp at h; exact absurd (by simp [← h.1]) hc
  | x :: a, b, [], d, h, ha, _ => by simp at h; exact absurd (by simp [h.1]) ha
  | x :: a, b, y :: c, d, h, ha, hc => by
    simp only [List.cons_append, List.cons.injEq] at h
    obtain ⟨e1, e2⟩ := split_uniq h.2 (fun m => ha (by simp [m])) (fun m => hc (by simp [m]))
    exact ⟨by rw [h.1, e1], e2⟩
theorem cut_first (s : ByteArray) : (32 : UInt8) ∉ (cutB s).1.data.toList := by
  unfold cutB
  by_cases hix : Lib.indexByte s.data.toList 32 = -1
  · rw [if_pos hix]
    intro h
    obtain ⟨k, hk⟩ := List.mem_iff_getElem?.1 h
    exact Lib.indexByte_none hix k hk
  · rw [if_neg hix]
    obtain ⟨i, hi⟩ : ∃ i : Nat, Lib.indexByte s.data.toList 32 = i := ⟨(Lib.indexByte s.data.toList 32).toNat, by have := Lib.indexByte_ge s.data.toList 32; omega⟩
    rw [hi, Int.toNat_natCast]
    simp only
    rw [ByteArray.data_extract, Array.toList_extract, List.extract_eq_take_drop]
    simp only [Nat.sub_zero, List.drop_zero]
    intro h
    obtain ⟨k, hk, he⟩ := List.mem_take_iff_getElem.1 h
    exact (Lib.indexByte_some hi).2 k (by omega) (by rw [List.getElem?_eq_getElem (by omega), he])
theorem ref_code (c : Int) (s : ByteArray) : refCodeR c s.data.toList = codeR c s := by
  have p9 := shp_matches s.data.toList [false, false, false, false, false]
  have p10 := shp_matches s.data.toList [true, false, true, false, true, false]
  have p13 := shp_matches s.data.toList [false, false, false, false]
  by_cases h1 : c = 1
  · subst h1
    unfold refCodeR
    show _ = if hasB s 9 then _ else _
    rw [show hasB s 9 = _ from p9.symm]
    by_cases e : s.data.toList.map shpC = [48, 48, 48, 48, 48]
    · rw [if_pos (.inl ⟨rfl, e⟩), if_pos (show decide (s.data.toList.map shpC = patB [false, false, false, false, false]) = true from decide_eq_true e)]
    · rw [if_neg (by rintro (⟨_, h⟩ | ⟨h, _⟩ | ⟨h, _⟩) <;> first | exact e h | omega), if_neg (by omega), if_neg (by simpa [patB] using e)]
  by_cases h3 : c = 3
  · subst h3
    unfold refCodeR
    show _ = if hasB s 13 then _ else _
    rw [show hasB s 13 = _ from p13.symm]
    by_cases e : s.data.toList.map shpC = [48, 48, 48, 48]
    · rw [if_pos (.inr (.inr ⟨rfl, e⟩)), if_pos (show decide (s.data.toList.map shpC = patB [false, false, false, false]) = true from decide_eq_true e)]
    · rw [if_neg (by rintro (⟨h, _⟩ | ⟨h, _⟩ | ⟨_, h⟩) <;> first | exact e h | omega), if_neg (by omega), if_neg (by simpa [patB] using e)]
  by_cases h2 : c = 2
  · subst h2
    unfold refCodeR
    show _ = if (cutB s).2.2 = true ∧ hasB (cutB s).1 11 = true ∧ hasB (cutB s).2.1 12 = true then _ else if hasB s 10 then _ else _
    rw [show hasB s 10 = _ from p10.symm]
    by_cases hc : (cutB s).2.2 = true ∧ hasB (cutB s).1 11 = true ∧ hasB (cutB s).2.1 12 = true
    · rw [if_pos hc]
      have h7 := cut_len hc.1 hc.2.1 hc.2.2
      obtain ⟨a, b, c⟩ := hc
      rcases cut_cases s with ⟨h', _⟩ | ⟨_, e⟩
      · rw [a] at h'; cases h'
      · have hb := shp_matches'.2 b
        have hc := shp_matches'.2 c
        have hlb := matches_len b
        have hm : s.data.toList.map shpC = [65, 48, 65, 32, 48, 65, 48] := by
          rw [e, List.map_append, List.map_cons, hb, hc]; decide
        rw [if_neg (by rw [hm]; rintro (⟨h, _⟩ | ⟨_, h⟩ | ⟨h, _⟩) <;> first | omega | (revert h; decide)), if_pos ⟨rfl, by simpa using h7, hm⟩]
        congr 1
        rw [e]
        congr 1
        · rw [List.take_append_of_le_length (by rw [hlb]; decide), List.take_of_length_le (by rw [hlb]; decide)]
        · rw [List.drop_append, hlb]
          simp [List.drop_of_length_le (show (cutB s).1.data.toList.length ≤ 4 by rw [hlb]; decide)]
    · rw [if_neg hc]
      by_cases e : s.data.toList.map shpC = [65, 48, 65, 48, 65, 48]
      · rw [if_pos (.inr (.inl ⟨rfl, e⟩)), if_pos (show decide (s.data.toList.map shpC = patB [true, false, true, false, true, false]) = true from decide_eq_true e)]
      · rw [if_neg (by rintro (⟨h, _⟩ | ⟨_, h⟩ | ⟨h, _⟩) <;> first | exact e h | omega), if_neg (c := decide _ = true) (by simpa [patB] using e), if_neg]
        rintro ⟨_, _, hm⟩
        obtain ⟨a, b, e1, m1, m2, _, _⟩ := seven hm
        apply hc
        rcases cut_cases s with ⟨_, hno⟩ | ⟨h', e2⟩
        · exact absurd (by rw [e1]; simp) hno
        · obtain ⟨x, y⟩ := split_uniq (e1.symm.trans e2) (matches_no_blank m1) (cut_first s)
          refine ⟨h', ?_, ?_⟩
          · show matchesB _ _ = true; rw [← x]; exact m1
          · show matchesB _ _ = true; rw [← y]; exact m2
  · unfold refCodeR codeR
    rw [if_neg (by rintro (⟨h, _⟩ | ⟨h, _⟩ | ⟨h, _⟩) <;> first | exact h1 h | exact h2 h | exact h3 h), if_neg (fun h => h2 h.1), if_neg h1, if_neg h2, if_neg h3]
theorem extract_one8 {s : ByteArray} {k : Nat} (h : k < s.size) : (s.extract k (k + 1)).data.toList = [s[k]] := by
  rw [ByteArray.data_extract, Array.toList_extract]
  rw [List.extract_eq_take_drop]
  have : s.data.toList.drop k = s[k] :: s.data.toList.drop (k + 1) := by
    rw [List.drop_eq_getElem_cons (by simpa using h)]; rfl
  rw [this]
  simp
set_option linter.unusedVariables false
theorem str_eq {a b : ByteArray} (h : a.data.toList = b.data.toList) : Value.string a = .string b := by rw [WideShapes.bytes_inj h]
theorem map_take_succ (f : UInt8 → UInt8) (s : ByteArray) (k : Nat) (h : k < s.size) : (s.data.toList.take (k + 1)).map f = (s.data.toList.take k).map f ++ [f s[k]] := by
  rw [List.take_succ_eq_append_getElem (by simpa using h), List.map_append]; rfl
theorem shp_of_letter {c : UInt8} (h1 : 65 ≤ (c.toNat : Int)) (h2 : (c.toNat : Int) ≤ 90) : shpC c = 65 := shp_letter.2 (by unfold isLetter; simp; omega)
theorem shp_of_digit {c : UInt8} (h1 : 48 ≤ (c.toNat : Int)) (h2 : (c.toNat : Int) ≤ 57) : shpC c = 48 := shp_digit.2 (by unfold isDigit; simp; omega)
theorem shp_of_other {c : UInt8} (h1 : ¬ (65 ≤ (c.toNat : Int) ∧ (c.toNat : Int) ≤ 90)) (h2 : ¬ (48 ≤ (c.toNat : Int) ∧ (c.toNat : Int) ≤ 57)) : shpC c = c := by
  unfold shpC
  rw [if_neg (by unfold isLetter; simpa using h1), if_neg (by unfold isDigit; simpa using h2)]
theorem app_next {t x : ByteArray} {k : Nat} {L L' : List UInt8} {c : UInt8} (h1 : t.data.toList = L) (h2 : L' = L ++ [c]) (h3 : x.data.toList = [c]) (ht : t.size ≤ k) : (t ++ x).size ≤ k + 1 ∧ Hid ((t ++ x).data.toList = L') := by
  have hx : x.size = 1 := by have : x.data.toList.length = x.size := by simp
                             rw [← this, h3]; rfl
  exact ⟨by rw [ByteArray.size_append]; omega, Lib.hid (by rw [h2, ← h1, ← h3]; simp)⟩
set_option maxHeartbeats 1000000 in
theorem shape_any (s : ByteArray) (w : World) (hs : s.size ≤ 60000) :
    Calls Tryz.prog 66 #[.string s] w fun e w' => e = .returned (.string ⟨(s.data.toList.map shpC).toArray⟩) ∧ w = w' := by
  go_enter Tryz.func66, Tryz.ntmps66
  go_wp2_with fail
  go_loop [3, 4] (fun v i => ∃ (k : Nat) (t : ByteArray), k ≤ s.size ∧ i = .int .i64 k ∧ v = .string t ∧ t.size ≤ k ∧ Hid (t.data.toList = (s.data.toList.take k).map shpC)) (fun _ i => s.size - (intOf i).toNat)
  case atStart => exact ⟨0, ⟨#[]⟩, Nat.zero_le _, rfl, rfl, Nat.le_refl _, rfl⟩
  case round =>
    obtain ⟨k, t, hk, rfl, rfl, ht, HT⟩ := hrel
    by_cases hlt : k < s.size
    · have hm := map_take_succ shpC s k hlt
      have HM := Lib.hid hm
      clear hm
      have hx := extract_one8 hlt
      have HX := Lib.hid hx
      clear hx
      by_cases hl : 65 ≤ (s[k].toNat : Int) ∧ (s[k].toNat : Int) ≤ 90
      · obtain ⟨l1, l2⟩ := hl
        go_wp2_with fail
        go_round
        case rel => exact ⟨k + 1, _, by omega, by go_num, rfl, app_next HT.out HM.out (by rw [shp_of_letter l1 l2]) ht⟩
        case measure => simp [intOf]; omega
      · by_cases hd : 48 ≤ (s[k].toNat : Int) ∧ (s[k].toNat : Int) ≤ 57
        · obtain ⟨d1, d2⟩ := hd
          have hl1 : (s[k].toNat : Int) < 65 := by omega
          clear hl
          go_wp2_with fail
          go_round
          case rel => exact ⟨k + 1, _, by omega, by go_num, rfl, app_next HT.out HM.out (by rw [shp_of_digit d1 d2]) ht⟩
          case measure => simp [intOf]; omega
        · have HO := Lib.hid (shp_of_other hl hd)
          have hsz : (s.extract k (k + 1)).size = 1 := by rw [ByteArray.size_extract]; omega
          have hsz' : (s.extract k (k + 1)).size ≤ 1 := by omega
          have HZ := Lib.hid hsz
          clear hsz
          go_wp2_with fail
          all_goals
            go_round
            case rel => exact ⟨k + 1, _, by omega, by go_num, rfl, app_next HT.out HM.out (by rw [HO.out, HX.out]) ht⟩
            case measure => simp [intOf]; omega
    · go_wp2_with fail
      go_ret
      refine ⟨congrArg Ending.returned (str_eq ?_), rfl⟩
      rw [HT.out, List.take_of_length_le (by simp; omega)]
theorem drop_ext (s : ByteArray) (d : Nat) : (s.extract d s.size).data.toList = s.data.toList.drop d := by
  rw [ByteArray.data_extract, Array.toList_extract, List.extract_eq_take_drop]
  exact List.take_of_length_le (by simp)
set_option linter.unusedVariables false
def CodePost' (c : Int) (l : List UInt8) (w : World) (e : Ending) (w' : World) : Prop :=
  ∃ t : ByteArray, t.data.toList = (refCodeR c l).1 ∧ e = .returned (.tuple #[.string t, .bool (refCodeR c l).2]) ∧ Below w.heap.size w w'
theorem ref_yes {c : Int} {s : ByteArray} {w : World} (h : refCodeR c s.data.toList = (s.data.toList, true)) : CodePost' c s.data.toList w (.returned (.tuple #[.string s, .bool true])) w := ⟨s, by rw [h], by rw [h], Below.refl _ _⟩
theorem ref_no {c : Int} {s : ByteArray} {w : World} (h : refCodeR c s.data.toList = ([], false)) : CodePost' c s.data.toList w (.returned (.tuple #[.string ⟨#[]⟩, .bool false])) w := ⟨⟨#[]⟩, by rw [h], by rw [h], Below.refl _ _⟩
theorem ext_3 (s : ByteArray) : (s.extract 0 3 ++ s.extract 4 s.size).data.toList = s.data.toList.take 3 ++ s.data.toList.drop 4 := by
  have h1 : (s.extract 0 3).data.toList = s.data.toList.take 3 := by rw [ByteArray.data_extract, Array.toList_extract, List.extract_eq_take_drop]; simp
  have h2 := drop_ext s 4
  rw [ByteArray.data_append, Array.toList_append, h1, h2]
set_option maxHeartbeats 4000000 in
theorem refCode_any (c : Int) (s : ByteArray) (w : World) (hs : s.size ≤ 60000) : Calls Tryz.prog 34 #[.int .u8 c, .string s] w (CodePost' c s.data.toList w) := by
  obtain ⟨sh, hsh, hshape⟩ : ∃ t : ByteArray, t.data.toList = s.data.toList.map shpC ∧ ∀ W, Calls Tryz.prog 66 #[.string s] W fun e w' => e = .returned (.string t) ∧ W = w' := ⟨⟨(s.data.toList.map shpC).toArray⟩, rfl, fun W => shape_any s W hs⟩
  have hR : refCodeR c s.data.toList = if (c = 1 ∧ sh.toList = [48, 48, 48, 48, 48]) ∨ (c = 2 ∧ sh.toList = [65, 48, 65, 48, 65, 48]) ∨ (c = 3 ∧ sh.toList = [48, 48, 48, 48]) then (s.data.toList, true)
      else if c = 2 ∧ s.size = 7 ∧ sh.toList = [65, 48, 65, 32, 48, 65, 48] then (s.data.toList.take 3 ++ s.data.toList.drop 4, true) else ([], false) := by
    unfold refCodeR
    rw [ByteArray.toList_eq sh, hsh, show s.data.toList.length = s.size from by simp]
  have HS := Lib.hid hshape
  clear hsh hshape
  by_cases h1 : c = 1
  · subst h1
    by_cases h : sh.toList = [48, 48, 48, 48, 48]
    · rw [if_pos (.inl ⟨rfl, h⟩)] at hR
      have FIN := Lib.hid (ref_yes (w := w) hR)
      have e1 : (sh.toList == [48, 48, 48, 48, 48]) = true := by rw [h]; rfl
      clear h hR
      go_enter Tryz.func34, Tryz.ntmps34
      go_wp2_with (go_at_call 66; refine (HS.out _).mono ?_; rintro e w' ⟨rfl, rfl⟩)
      go_ret2
      exact FIN.out
    · rw [if_neg (by rintro (⟨_, h'⟩ | ⟨h', _⟩ | ⟨h', _⟩) <;> first | exact h h' | omega), if_neg (by omega)] at hR
      have FIN := Lib.hid (ref_no (w := w) hR)
      have e1 : (sh.toList == [48, 48, 48, 48, 48]) = false := by simpa using h
      clear h hR
      go_enter Tryz.func34, Tryz.ntmps34
      go_wp2_with (go_at_call 66; refine (HS.out _).mono ?_; rintro e w' ⟨rfl, rfl⟩)
      go_ret2
      exact FIN.out
  by_cases h3 : c = 3
  · subst h3
    by_cases h : sh.toList = [48, 48, 48, 48]
    · rw [if_pos (.inr (.inr ⟨rfl, h⟩))] at hR
      have FIN := Lib.hid (ref_yes (w := w) hR)
      have e1 : (sh.toList == [48, 48, 48, 48]) = true := by rw [h]; rfl
      clear h hR
      go_enter Tryz.func34, Tryz.ntmps34
      go_wp2_with (go_at_call 66; refine (HS.out _).mono ?_; rintro e w' ⟨rfl, rfl⟩)
      go_ret2
      exact FIN.out
    · rw [if_neg (by rintro (⟨h', _⟩ | ⟨h', _⟩ | ⟨_, h'⟩) <;> first | exact h h' | omega), if_neg (by omega)] at hR
      have FIN := Lib.hid (ref_no (w := w) hR)
      have e1 : (sh.toList == [48, 48, 48, 48]) = false := by simpa using h
      clear h hR
      go_enter Tryz.func34, Tryz.ntmps34
      go_wp2_with (go_at_call 66; refine (HS.out _).mono ?_; rintro e w' ⟨rfl, rfl⟩)
      go_ret2
      exact FIN.out
  by_cases h2 : c = 2
  · subst h2
    by_cases h : sh.toList = [65, 48, 65, 48, 65, 48]
    · rw [if_pos (.inr (.inl ⟨rfl, h⟩))] at hR
      have FIN := Lib.hid (ref_yes (w := w) hR)
      have e1 : (sh.toList == [65, 48, 65, 48, 65, 48]) = true := by rw [h]; rfl
      clear h hR
      go_enter Tryz.func34, Tryz.ntmps34
      go_wp2_with (go_at_call 66; refine (HS.out _).mono ?_; rintro e w' ⟨rfl, rfl⟩)
      go_ret2
      exact FIN.out
    · rw [if_neg (by rintro (⟨h', _⟩ | ⟨_, h'⟩ | ⟨h', _⟩) <;> first | exact h h' | omega)] at hR
      have e1 : (sh.toList == [65, 48, 65, 48, 65, 48]) = false := by simpa using h
      clear h
      by_cases h7 : s.size = 7
      · have e7 : ((s.size : Int) == 7) = true := by simp [h7]
        have hle : s.size ≤ 7 := by omega
        have hge : 7 ≤ s.size := by omega
        by_cases h : sh.toList = [65, 48, 65, 32, 48, 65, 48]
        · rw [if_pos ⟨rfl, h7, h⟩] at hR
          have FIN : Hid (∀ W', Below w.heap.size w W' → CodePost' 2 s.data.toList w (.returned (.tuple #[.string (s.extract 0 3 ++ s.extract 4 s.size), .bool true])) W') := Lib.hid (fun W' hb => ⟨_, by rw [hR, ext_3], by rw [hR], hb⟩)
          have e2 : (sh.toList == [65, 48, 65, 32, 48, 65, 48]) = true := by rw [h]; rfl
          have z1 : (s.extract 0 3).size ≤ 3 := by rw [ByteArray.size_extract]; omega
          have z2 : (s.extract 4 s.size).size ≤ 3 := by rw [ByteArray.size_extract]; omega
          clear h hR h7
          go_enter Tryz.func34, Tryz.ntmps34
          go_wp2_with (go_at_call 66; refine (HS.out _).mono ?_; rintro e w' ⟨rfl, rfl⟩)
          go_region
          go_wp2_with fail
          go_ret2
          exact FIN.out _ (Below.refl _ _).drew
        · rw [if_neg (fun x => h x.2.2)] at hR
          have FIN := Lib.hid (ref_no (w := w) hR)
          have e2 : (sh.toList == [65, 48, 65, 32, 48, 65, 48]) = false := by simpa using h
          clear h hR h7
          go_enter Tryz.func34, Tryz.ntmps34
          go_wp2_with (go_at_call 66; refine (HS.out _).mono ?_; rintro e w' ⟨rfl, rfl⟩)
          go_ret2
          exact FIN.out
      · have e7 : ((s.size : Int) == 7) = false := by simp; omega
        rw [if_neg (fun x => h7 x.2.1)] at hR
        have FIN := Lib.hid (ref_no (w := w) hR)
        clear hR
        go_enter Tryz.func34, Tryz.ntmps34
        go_wp2_with (go_at_call 66; refine (HS.out _).mono ?_; rintro e w' ⟨rfl, rfl⟩)
        go_ret2
        exact FIN.out
  · rw [if_neg (by rintro (⟨h', _⟩ | ⟨h', _⟩ | ⟨h', _⟩) <;> first | exact h1 h' | exact h2 h' | exact h3 h'), if_neg (fun x => h2 x.1)] at hR
    have FIN := Lib.hid (ref_no (w := w) hR)
    have q1 : (c == 1) = false := by simpa using h1
    have q2 : (c == 2) = false := by simpa using h2
    have q3 : (c == 3) = false := by simpa using h3
    clear hR h1 h2 h3
    go_enter Tryz.func34, Tryz.ntmps34
    go_wp2_with (go_at_call 66; refine (HS.out _).mono ?_; rintro e w' ⟨rfl, rfl⟩)
    go_ret2
    exact FIN.out
end Go.Proofs.YtgdlgfplheeblaaGreatDoor
