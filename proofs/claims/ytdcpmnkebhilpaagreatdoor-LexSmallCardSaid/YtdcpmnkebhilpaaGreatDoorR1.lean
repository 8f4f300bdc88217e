/-
  Contracts of the reference's shape, counts and Number (letterbagref08).
-/
import Derived.Test.YtdcpmnkebhilpaaGreatDoorRp
import Derived.RegionTactic
import Derived.ChangeAlike
import Derived.Outline
namespace Go.Proofs.YtdcpmnkebhilpaaGreatDoor
open Go.RowKit
set_option linter.unusedVariables false
theorem str_eq {a b : ByteArray} (h : a.data.toList = b.data.toList) : Value.string a = .string b := by rw [WideShapes.bytes_inj h]
theorem map_take_succ (f : UInt8 → UInt8) (s : ByteArray) (k : Nat) (h : k < s.size) : (s.data.toList.take (k + 1)).map f = (s.data.toList.take k).map f ++ [f s[k]] := by
  rw [List.take_succ_eq_append_getElem (by simpa using h), List.map_append]; rfl
theorem shp_of_letter {c : UInt8} (h1 : 65 ≤ (c.toNat : Int)) (h2 : (c.toNat : Int) ≤ 90) : shpC c = 65 := shp_letter.2 (by unfold isLetter; simp; omega)
theorem shp_of_digit {c : UInt8} (h1 : 48 ≤ (c.toNat : Int)) (h2 : (c.toNat : Int) ≤ 57) : shpC c = 48 := shp_digit.2 (by unfold isDigit; simp; omega)
theorem shp_of_other {c : UInt8} (h1 : ¬ (65 ≤ (c.toNat : Int) ∧ (c.toNat : Int) ≤ 90)) (h2 : ¬ (48 ≤ (c.toNat : Int) ∧ (c.toNat : Int) ≤ 57)) : shpC c = c := by
  unfold shpC
  rw [if_neg (by unfold isLetter; simpa using h1), if_neg (by unfold isDigit; simpa using h2)]
theorem app_next {t x : ByteArray} {k : Nat} {L L' : List UInt8} {c : UInt8} (h1 : t.data.toList = L) (h2 : L' = L ++ [c]) (h3 : x.data.toList = [c]) (ht : t.size ≤ k) : (t ++ x).size ≤ k + 1 ∧ Hid ((t ++ x).data.toList = L') := by
  have hx : x.size = 1 := by have : x.data.toList.length = x.size := by simp
                             rw [← this, h3]; rfl
  exact ⟨by rw [ByteArray.size_append]; omega, Lib.hid (by rw [h2, ← h1, ← h3]; simp)⟩
set_option maxHeartbeats 1000000 in
theorem shape_any (s : ByteArray) (w : World) (hs : s.size ≤ 60000) :
    Calls Tryz.prog 40 #[.string s] w fun e w' => e = .returned (.string ⟨(s.data.toList.map shpC).toArray⟩) ∧ w = w' := by
  go_enter Tryz.func40, Tryz.ntmps40
  go_wp2_with fail
  go_loop [3, 4] (fun v i => ∃ (k : Nat) (t : ByteArray), k ≤ s.size ∧ i = .int .i64 k ∧ v = .string t ∧ t.size ≤ k ∧ Hid (t.data.toList = (s.data.toList.take k).map shpC)) (fun _ i => s.size - (intOf i).toNat)
  case atStart => exact ⟨0, ⟨#[]⟩, Nat.zero_le _, rfl, rfl, Nat.le_refl _, rfl⟩
  case round =>
    obtain ⟨k, t, hk, rfl, rfl, ht, HT⟩ := hrel
    by_cases hlt : k < s.size
    · have hm := map_take_succ shpC s k hlt
      have HM := Lib.hid hm
      clear hm
      have hx := extract_one hlt
      have HX := Lib.hid hx
      clear hx
      by_cases hl : 65 ≤ (s[k].toNat : Int) ∧ (s[k].toNat : Int) ≤ 90
      · obtain ⟨l1, l2⟩ := hl
        go_wp2_with fail
        go_round
        case rel => exact ⟨k + 1, _, by omega, by go_num, rfl, app_next HT.out HM.out (by rw [shp_of_letter l1 l2]) ht⟩
        case measure => simp [intOf]; omega
      · by_cases hd : 48 ≤ (s[k].toNat : Int) ∧ (s[k].toNat : Int) ≤ 57
        · obtain ⟨d1, d2⟩ := hd
          have hl1 : (s[k].toNat : Int) < 65 := by omega
          clear hl
          go_wp2_with fail
          go_round
          case rel => exact ⟨k + 1, _, by omega, by go_num, rfl, app_next HT.out HM.out (by rw [shp_of_digit d1 d2]) ht⟩
          case measure => simp [intOf]; omega
        · have HO := Lib.hid (shp_of_other hl hd)
          have hsz : (s.extract k (k + 1)).size = 1 := by rw [ByteArray.size_extract]; omega
          have hsz' : (s.extract k (k + 1)).size ≤ 1 := by omega
          have HZ := Lib.hid hsz
          clear hsz
          go_wp2_with fail
          all_goals
            go_round
            case rel => exact ⟨k + 1, _, by omega, by go_num, rfl, app_next HT.out HM.out (by rw [HO.out, HX.out]) ht⟩
            case measure => simp [intOf]; omega
    · go_wp2_with fail
      go_ret
      refine ⟨congrArg Ending.returned (str_eq ?_), rfl⟩
      rw [HT.out, List.take_of_length_le (by simp; omega)]
theorem count_shp65 (l : List UInt8) : (l.map shpC).count 65 = cntP isLetter l := by
  induction l with
  | nil => rfl
  | cons c l ih =>
    rw [List.map_cons, List.count_cons, cntP_cons, ih]
    congr 1
    by_cases h : isLetter (c.toNat : Int) = true
    · rw [shp_letter.2 h, h]; simp
    · have h' : ¬ shpC c = 65 := fun e => h (shp_letter.1 e)
      simp [h, h']
theorem count_shp48 (l : List UInt8) : (l.map shpC).count 48 = cntP isDigit l := by
  induction l with
  | nil => rfl
  | cons c l ih =>
    rw [List.map_cons, List.count_cons, cntP_cons, ih]
    congr 1
    by_cases h : isDigit (c.toNat : Int) = true
    · rw [shp_digit.2 h, h]; simp
    · have h' : ¬ shpC c = 48 := fun e => h (shp_digit.1 e)
      simp [h, h']
theorem hy_iff {c : UInt8} : isHy (c.toNat : Int) = true ↔ c = 45 := by
  unfold isHy
  simp only [decide_eq_true_eq]
  constructor
  · intro e; exact UInt8.toNat_inj.1 (by show c.toNat = 45; omega)
  · rintro rfl; rfl
theorem count_shp45 (l : List UInt8) : (l.map shpC).count 45 = cntP isHy l := by
  induction l with
  | nil => rfl
  | cons c l ih =>
    rw [List.map_cons, List.count_cons, cntP_cons, ih]
    congr 1
    have hs : shpC c = 45 ↔ c = 45 := shp_other (by decide) (by decide) (by decide) (by decide)
    by_cases h : isHy (c.toNat : Int) = true
    · rw [hs.2 (hy_iff.1 h), h]; simp
    · have h' : ¬ shpC c = 45 := fun e => h (hy_iff.2 (hs.1 e))
      simp [h, h']
theorem count_take_succ (t : ByteArray) (k : Nat) (h : k < t.size) (x : UInt8) : (t.data.toList.take (k + 1)).count x = (t.data.toList.take k).count x + if t[k] = x then 1 else 0 := by
  rw [List.take_succ_eq_append_getElem (by simpa using h), List.count_append, List.count_singleton]
  simp only [beq_iff_eq]
  rfl
set_option maxHeartbeats 2000000 in
theorem counts_any (s : ByteArray) (w : World) (hs : s.size ≤ 60000) :
    Calls Tryz.prog 39 #[.string s] w fun e w' => e = .returned (.tuple #[.int .i64 (cntP isLetter s.data.toList), .int .i64 (cntP isDigit s.data.toList), .int .i64 (cntP isHy s.data.toList)]) ∧ w = w' := by
  have FIN : Hid (∀ t : ByteArray, t.data.toList = s.data.toList.map shpC → Ending.returned (.tuple #[.int .i64 ((t.data.toList.count 65 : Nat) : Int), .int .i64 ((t.data.toList.count 48 : Nat) : Int), .int .i64 ((t.data.toList.count 45 : Nat) : Int)]) = Ending.returned (.tuple #[.int .i64 (cntP isLetter s.data.toList), .int .i64 (cntP isDigit s.data.toList), .int .i64 (cntP isHy s.data.toList)])) := fun t ht => by
    rw [ht, count_shp65, count_shp48, count_shp45]
  obtain ⟨t, ht⟩ : ∃ t : ByteArray, t.data.toList = s.data.toList.map shpC := ⟨⟨(s.data.toList.map shpC).toArray⟩, rfl⟩
  have hts : t.size ≤ 60000 := by
    have : t.data.toList.length = t.size := by simp
    rw [← this, ht]; simpa using hs
  have hsh : ∀ W, Calls Tryz.prog 40 #[.string s] W fun e w' => e = .returned (.string t) ∧ W = w' := fun W => by
    refine (shape_any s W hs).mono ?_
    rintro e w' ⟨rfl, rfl⟩
    exact ⟨congrArg Ending.returned (str_eq ht.symm), rfl⟩
  have F := Lib.hid (FIN.out t ht)
  clear FIN ht
  have H := Lib.hid hsh
  clear hsh
  go_enter Tryz.func39, Tryz.ntmps39
  go_wp2_with (go_at_call 40; refine (H.out _).mono ?_; rintro e w' ⟨rfl, rfl⟩)
  go_loop [6, 7, 8, 9] (fun a b c i => ∃ (k : Nat), k ≤ t.size ∧ i = .int .i64 k ∧ a = .int .i64 ((t.data.toList.take k).count 65 : Nat) ∧ b = .int .i64 ((t.data.toList.take k).count 48 : Nat) ∧ c = .int .i64 ((t.data.toList.take k).count 45 : Nat)) (fun _ _ _ i => t.size - (intOf i).toNat)
  case atStart => exact ⟨0, Nat.zero_le _, rfl, rfl, rfl, rfl⟩
  case round =>
    obtain ⟨k, hk, rfl, rfl, rfl, rfl⟩ := hrel
    by_cases hlt : k < t.size
    · have e1 := Lib.hid (count_take_succ t k hlt 65)
      have e2 := Lib.hid (count_take_succ t k hlt 48)
      have e3 := Lib.hid (count_take_succ t k hlt 45)
      have b1 : (t.data.toList.take k).count 65 ≤ k := Nat.le_trans List.count_le_length (List.length_take_le _ _)
      have b2 : (t.data.toList.take k).count 48 ≤ k := Nat.le_trans List.count_le_length (List.length_take_le _ _)
      have b3 : (t.data.toList.take k).count 45 ≤ k := Nat.le_trans List.count_le_length (List.length_take_le _ _)
      generalize (t.data.toList.take k).count 65 = x1 at e1 b1 ⊢
      generalize (t.data.toList.take k).count 48 = x2 at e2 b2 ⊢
      generalize (t.data.toList.take k).count 45 = x3 at e3 b3 ⊢
      have q1 := u8_int t[k] 65 65 rfl
      have q2 := u8_int t[k] 48 48 rfl
      have q3 := u8_int t[k] 45 45 rfl
      have hcase : t[k] = 65 ∨ t[k] = 48 ∨ t[k] = 45 ∨ (¬ t[k] = 65 ∧ ¬ t[k] = 48 ∧ ¬ t[k] = 45) := by
        by_cases h1 : t[k] = 65
        · exact .inl h1
        by_cases h2 : t[k] = 48
        · exact .inr (.inl h2)
        by_cases h3 : t[k] = 45
        · exact .inr (.inr (.inl h3))
        · exact .inr (.inr (.inr ⟨h1, h2, h3⟩))
      rcases hcase with h | h | h | ⟨h1, h2, h3⟩
      case' inl => rw [h] at e1 e2 e3; rw [decide_eq_true h] at q1; rw [decide_eq_false (by rw [h]; decide)] at q2 q3; clear h
      case' inr.inl => rw [h] at e1 e2 e3; rw [decide_eq_true h] at q2; rw [decide_eq_false (by rw [h]; decide)] at q1 q3; clear h
      case' inr.inr.inl => rw [h] at e1 e2 e3; rw [decide_eq_true h] at q3; rw [decide_eq_false (by rw [h]; decide)] at q1 q2; clear h
      case' inr.inr.inr => rw [if_neg h1] at e1; rw [if_neg h2] at e2; rw [if_neg h3] at e3; rw [decide_eq_false h1] at q1; rw [decide_eq_false h2] at q2; rw [decide_eq_false h3] at q3; clear h1 h2 h3
      all_goals
        go_wp2_with fail
        go_round
        case rel => exact ⟨k + 1, by omega, by go_num, int_eq (by rw [e1.out]; simp), int_eq (by rw [e2.out]; simp), int_eq (by rw [e3.out]; simp)⟩
        case measure => simp [intOf]; omega
    · go_wp2_with fail
      go_ret3
      have ek : t.data.toList.take k = t.data.toList := List.take_of_length_le (by simp; omega)
      rw [ek]
      exact ⟨F.out, rfl⟩
theorem valOf_crude (s : ByteArray) : ∀ k, k ≤ s.size → -(23 * (10 : Int) ^ k - 23) ≤ valOf (s.data.toList.take k) ∧ valOf (s.data.toList.take k) ≤ 23 * (10 : Int) ^ k - 23
  | 0, _ => by simp [valOf]
  | k + 1, hk => by
    have ih := valOf_crude s k (by omega)
    have hb := s[k].toNat_lt
    rw [valOf_succ s k (by omega), Int.pow_succ]
    omega
theorem valOf_six (s : ByteArray) (k : Nat) (hk : k ≤ s.size) (h6 : k ≤ 6) : -23000000 ≤ valOf (s.data.toList.take k) ∧ valOf (s.data.toList.take k) ≤ 23000000 := by
  have h := valOf_crude s k hk
  have h2 : (10 : Int) ^ k ≤ 10 ^ 6 := by exact_mod_cast Nat.pow_le_pow_right (by decide : 0 < 10) h6
  omega
def NumPost' (l : List UInt8) (w : World) (e : Ending) (w' : World) : Prop :=
  ∃ t : ByteArray, t.data.toList = (refNumR l).2.1 ∧ e = .returned (.tuple #[.int .i64 (refNumR l).1, .string t, .bool (refNumR l).2.2]) ∧ Below w.heap.size w w'
theorem getD_at {s : ByteArray} {k : Nat} (h : k < s.size) (d : UInt8) : s.data.toList.getD k d = s[k] := by
  rw [List.getD_eq_getElem?_getD, List.getElem?_eq_getElem (by simpa using h)]; rfl
theorem drop_ext (s : ByteArray) (d : Nat) : (s.extract d s.size).data.toList = s.data.toList.drop d := by
  rw [ByteArray.data_extract, Array.toList_extract, List.extract_eq_take_drop]
  exact List.take_of_length_le (by simp)
theorem ref_none {l : List UInt8} {w : World} (h : refNumR l = (0, [], false)) : NumPost' l w (.returned (.tuple #[.int .i64 0, .string ⟨#[]⟩, .bool false])) w :=
  ⟨⟨#[]⟩, by rw [h], by rw [h], Below.refl _ _⟩
set_option maxHeartbeats 4000000 in
theorem refNumber_any (s : ByteArray) (w : World) (hs : s.size ≤ 60000) : Calls Tryz.prog 18 #[.string s] w (NumPost' s.data.toList w) := by
  have hlen : s.data.toList.length = s.size := by simp
  have hR : refNumR s.data.toList = if cntP isDigit s.data.toList < 1 ∨ 6 < cntP isDigit s.data.toList ∨ 1 < cntP isLetter s.data.toList ∨ cntP isLetter s.data.toList + cntP isDigit s.data.toList ≠ s.size ∨ s.data.toList.getD 0 0 = 48 then (0, [], false)
      else if cntP isLetter s.data.toList = 1 ∧ isLetter ((s.data.toList.getD (cntP isDigit s.data.toList) 0).toNat : Int) = false then (0, [], false)
      else (valOf (s.data.toList.take (cntP isDigit s.data.toList)), s.data.toList.drop (cntP isDigit s.data.toList), true) := by unfold refNumR; rw [hlen]
  have hcnt := fun W => counts_any s W hs
  have hb := two_le s.data.toList
  rw [hlen] at hb
  generalize cntP isHy s.data.toList = H at hcnt
  generalize hL : cntP isLetter s.data.toList = L at hR hcnt hb
  generalize hD : cntP isDigit s.data.toList = D at hR hcnt hb
  have HC := Lib.hid hcnt
  have HL := Lib.hid hL
  have HD := Lib.hid hD
  clear hcnt hL hD hlen
  by_cases h1 : D < 1 ∨ 6 < D ∨ 1 < L ∨ L + D ≠ s.size
  · rw [if_pos (by rcases h1 with h | h | h | h <;> simp [h])] at hR
    have FIN := Lib.hid (ref_none (w := w) hR)
    clear hR
    rcases h1 with h1 | h1 | h1 | h1
    case' inr.inr.inr => have hne : (((L : Int) + (D : Int)) != (s.size : Int)) = true := by simp; omega
    all_goals
      go_enter Tryz.func18, Tryz.ntmps18
      go_wp2_with (go_at_call 39; refine (HC.out _).mono ?_; rintro e w' ⟨rfl, rfl⟩)
      all_goals
        go_ret3
        exact FIN.out
  · have hd1 : 1 ≤ D := by omega
    have hd6 : D ≤ 6 := by omega
    have hl1 : L ≤ 1 := by omega
    have hsum : L + D = s.size := by omega
    have hne : (((L : Int) + (D : Int)) != (s.size : Int)) = false := by simp; omega
    have h0 : 0 < s.size := by omega
    have hg := getD_at h0 0
    have q := u8_int s[0] 48 48 rfl
    by_cases h48 : s[0] = 48
    · rw [if_pos (by right; right; right; right; rw [hg]; exact h48)] at hR
      have FIN := Lib.hid (ref_none (w := w) hR)
      rw [decide_eq_true h48] at q
      have HSUM := Lib.hid hsum
      clear hR hg h48 h1 hsum
      go_enter Tryz.func18, Tryz.ntmps18
      go_wp2_with (go_at_call 39; refine (HC.out _).mono ?_; rintro e w' ⟨rfl, rfl⟩)
      go_ret3
      exact FIN.out
    · rw [if_neg (by rintro (h | h | h | h | h); omega; omega; omega; omega; exact h48 (hg ▸ h))] at hR
      rw [decide_eq_false h48] at q
      have hz : Hid (∀ W', Below w.heap.size w W' → refNumR s.data.toList = (valOf (s.data.toList.take D), s.data.toList.drop D, true) → NumPost' s.data.toList w (.returned (.tuple #[.int .i64 (valOf (s.data.toList.take D)), .string (s.extract D s.size), .bool true])) W') :=
        fun W' hb hR => ⟨_, by rw [hR, drop_ext], by rw [hR], hb⟩
      have HSUM := Lib.hid hsum
      have hDs : D ≤ s.size := by omega
      by_cases hLz : L = 0
      · subst hLz
        rw [if_neg (by omega)] at hR
        have FIN : Hid (∀ W', Below w.heap.size w W' → NumPost' s.data.toList w (.returned (.tuple #[.int .i64 (valOf (s.data.toList.take D)), .string (s.extract D s.size), .bool true])) W') := Lib.hid (fun W' hb => hz.out W' hb hR)
        have hne0 : ((D : Int) != (s.size : Int)) = false := by simp; omega
        have HC0 := HC.out
        rw [show ((0 : Nat) : Int) = 0 from rfl] at HC0
        have HC := Lib.hid HC0
        clear hR hg h48 h1 hsum hz hl1 hne HC0
        go_enter Tryz.func18, Tryz.ntmps18
        go_wp2_with (go_at_call 39; refine (HC.out _).mono ?_; rintro e w' ⟨rfl, rfl⟩)
        go_loop [8, 9] (fun v i => ∃ k : Nat, k ≤ D ∧ i = .int .i64 k ∧ v = .int .i64 (valOf (s.data.toList.take k))) (fun _ i => D - (intOf i).toNat)
        case atStart => exact ⟨0, Nat.zero_le _, rfl, rfl⟩
        case round =>
          obtain ⟨k, hk, rfl, rfl⟩ := hrel
          have hv := valOf_six s k (by omega) (by omega)
          by_cases hlt : k < D
          · have hks : k < s.size := by omega
            have HX := Lib.hid (valOf_succ s k hks)
            have hc := s[k].toNat_lt
            generalize valOf (s.data.toList.take k) = n at hv HX ⊢
            go_wp2_with fail
            go_round
            case rel => exact ⟨k + 1, by omega, by go_num, int_eq (by rw [HX.out]; omega)⟩
            case measure => simp [intOf]; omega
          · obtain rfl : k = D := by omega
            go_wp2_with fail
            go_region
            go_wp2_with fail
            go_ret3
            exact FIN.out _ (Below.refl w.heap.size w).drew
      · obtain rfl : L = 1 := by omega
        obtain ⟨t, ht⟩ : ∃ t : ByteArray, t.data.toList = s.data.toList.map shpC := ⟨⟨(s.data.toList.map shpC).toArray⟩, rfl⟩
        have hts : t.size = s.size := by
          have e1 : t.data.toList.length = t.size := by simp
          rw [← e1, ht]; simp
        have hsh : ∀ W, Calls Tryz.prog 40 #[.string s] W fun e w' => e = .returned (.string t) ∧ W = w' := fun W => by
          refine (shape_any s W hs).mono ?_
          rintro e w' ⟨rfl, rfl⟩
          exact ⟨congrArg Ending.returned (str_eq ht.symm), rfl⟩
        have hDlt : D < s.size := by omega
        have hDt : D < t.size := by omega
        have htD : t[D] = shpC s[D] := by
          have e1 : t.data.toList[D]? = (s.data.toList.map shpC)[D]? := by rw [ht]
          rw [List.getElem?_map, List.getElem?_eq_getElem (by simpa using hDt), List.getElem?_eq_getElem (by simpa using hDlt)] at e1
          exact Option.some.inj e1
        have hgD := getD_at hDlt 0
        have qn := u8_intn t[D] 65 65 rfl
        have HSH := Lib.hid hsh
        have hts' : t.size ≤ 60000 := by omega
        have hne0 : (1 + (D : Int) != (s.size : Int)) = false := by simp; omega
        have HC0 := HC.out
        rw [show ((1 : Nat) : Int) = 1 from rfl] at HC0
        have HC := Lib.hid HC0
        clear hsh ht hts hLz HC0 hne
        cases hlt : isLetter (s[D].toNat : Int)
        · rw [if_pos ⟨rfl, by rw [hgD]; exact hlt⟩] at hR
          have FIN := Lib.hid (ref_none (w := w) hR)
          rw [decide_eq_false (by rw [htD]; intro e; rw [shp_letter.1 e] at hlt; cases hlt)] at qn
          simp only [Bool.not_false] at qn
          clear hR hg h48 h1 hsum hz hgD htD hlt hl1
          go_enter Tryz.func18, Tryz.ntmps18
          go_wp2_with (first | (go_at_call 39; refine (HC.out _).mono ?_; rintro e w' ⟨rfl, rfl⟩) | (go_at_call 40; refine (HSH.out _).mono ?_; rintro e w' ⟨rfl, rfl⟩))
          go_ret3
          exact FIN.out
        · rw [if_neg (by rintro ⟨_, h⟩; rw [hgD, hlt] at h; cases h)] at hR
          rw [decide_eq_true (by rw [htD]; exact shp_letter.2 hlt)] at qn
          simp only [Bool.not_true] at qn
          have FIN : Hid (∀ W', Below w.heap.size w W' → NumPost' s.data.toList w (.returned (.tuple #[.int .i64 (valOf (s.data.toList.take D)), .string (s.extract D s.size), .bool true])) W') := Lib.hid (fun W' hb => hz.out W' hb hR)
          clear hR hg h48 h1 hsum hz hgD htD hlt hl1
          go_enter Tryz.func18, Tryz.ntmps18
          go_wp2_with (first | (go_at_call 39; refine (HC.out _).mono ?_; rintro e w' ⟨rfl, rfl⟩) | (go_at_call 40; refine (HSH.out _).mono ?_; rintro e w' ⟨rfl, rfl⟩))
          go_loop [8, 9] (fun v i => ∃ k : Nat, k ≤ D ∧ i = .int .i64 k ∧ v = .int .i64 (valOf (s.data.toList.take k))) (fun _ i => D - (intOf i).toNat)
          case atStart => exact ⟨0, Nat.zero_le _, rfl, rfl⟩
          case round =>
            clear qn
            obtain ⟨k, hk, rfl, rfl⟩ := hrel
            have hv := valOf_six s k (by omega) (by omega)
            by_cases hlt : k < D
            · have hks : k < s.size := by omega
              have HX := Lib.hid (valOf_succ s k hks)
              have hc := s[k].toNat_lt
              generalize valOf (s.data.toList.take k) = n at hv HX ⊢
              go_wp2_with fail
              go_round
              case rel => exact ⟨k + 1, by omega, by go_num, int_eq (by rw [HX.out]; omega)⟩
              case measure => simp [intOf]; omega
            · obtain rfl : k = D := by omega
              go_wp2_with fail
              go_region
              go_wp2_with fail
              go_ret3
              exact FIN.out _ (Below.refl w.heap.size w).drew
end Go.Proofs.YtdcpmnkebhilpaaGreatDoor
