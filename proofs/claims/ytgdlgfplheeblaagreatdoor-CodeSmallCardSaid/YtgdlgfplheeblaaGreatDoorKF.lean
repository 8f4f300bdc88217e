/-
  Package code: plain laws of errors in payloads, and of the digits of points.
-/
import Derived.Test.YtgdlgfplheeblaaGreatDoorKE
namespace Go.Proofs.YtgdlgfplheeblaaGreatDoor
open Go.RowKit
set_option linter.unusedVariables false
set_option maxRecDepth 100000
theorem valsOf_rev (s : ByteArray) : valsOf s = s.data.toList.reverse.map (fun c => c.toNat - 48) := by
  apply List.ext_getElem
  · simp [valsOf]
  · intro q h1 h2
    have hq : q < s.size := by simpa [valsOf] using h1
    have hl : s.data.toList.length = s.size := rfl
    simp only [valsOf, valAt, List.getElem_map, List.getElem_range, List.getElem_reverse]
    rw [List.getD_eq_getElem?_getD, List.getElem?_eq_getElem (by omega)]
    simp only [hl, Option.getD_some]
theorem dig_val {c : UInt8} (h : 48 ≤ c.toNat ∧ c.toNat ≤ 57) : c.toNat - 48 < 10 := by omega
theorem dig_rev {l : List UInt8} (h : ∀ c ∈ l, 48 ≤ c.toNat ∧ c.toNat ≤ 57) : ∀ v ∈ l.reverse.map (fun c : UInt8 => c.toNat - 48), v < 10 := fun v hv => by
  obtain ⟨c, hc, rfl⟩ := List.mem_map.1 hv
  exact dig_val (h c (List.mem_reverse.1 hc))
theorem one_found {s t : ByteArray} {a b : List UInt8} {c d : UInt8} (hs : s.data.toList = a ++ c :: b) (ht : t.data.toList = a ++ d :: b) (hd : digB s = true) (hd2 : 48 ≤ d.toNat ∧ d.toNat ≤ 57) (hp : permB (valsOf s) = true) (hne : d ≠ c) : permB (valsOf t) = false := by
  cases hq : permB (valsOf t)
  · rfl
  · exfalso
    have hda := digB_iff.1 hd
    rw [hs] at hda
    have h1 := of_decide_eq_true hp
    have h2 := of_decide_eq_true hq
    rw [valsOf_rev, hs] at h1
    rw [valsOf_rev, ht] at h2
    simp only [List.reverse_append, List.reverse_cons, List.append_assoc, List.singleton_append, List.map_append, List.map_cons] at h1 h2
    have hc := hda c (by simp)
    have := prod_one (dig_rev (fun x hx => hda x (by simp [hx]))) (dig_rev (fun x hx => hda x (by simp [hx]))) (dig_val hc) (dig_val hd2) (h1.trans h2.symm)
    exact hne (UInt8.toNat_inj.1 (by omega))
theorem swap_found {s t : ByteArray} {a b : List UInt8} {c d : UInt8} (hs : s.data.toList = a ++ c :: d :: b) (ht : t.data.toList = a ++ d :: c :: b) (hd : digB s = true) (hp : permB (valsOf s) = true) (hne : c ≠ d) : permB (valsOf t) = false := by
  cases hq : permB (valsOf t)
  · rfl
  · exfalso
    have hda := digB_iff.1 hd
    rw [hs] at hda
    have h1 := of_decide_eq_true hp
    have h2 := of_decide_eq_true hq
    rw [valsOf_rev, hs] at h1
    rw [valsOf_rev, ht] at h2
    simp only [List.reverse_append, List.reverse_cons, List.append_assoc, List.singleton_append, List.map_append, List.map_cons] at h1 h2
    have hc := hda c (by simp)
    have hdd := hda d (by simp)
    exact prod_swap (dig_rev (fun x hx => hda x (by simp [hx]))) (dig_rev (fun x hx => hda x (by simp [hx]))) (dig_val hdd) (dig_val hc) (fun e => hne (UInt8.toNat_inj.1 (by omega))) (h1.trans h2.symm)
theorem decR_171 {t : ByteArray} (h : ¬ (t.size = 17 ∧ digB t = true)) : decR t = noDec 171 := by unfold decR; rw [if_neg h]
theorem decR_172 {t : ByteArray} (h1 : t.size = 17) (h2 : digB t = true) (h3 : permB (valsOf t) = false) : decR t = noDec 172 := by
  unfold decR; rw [if_pos ⟨h1, h2⟩, if_neg (by rw [h3]; decide)]
theorem decR_ne_171 {t : ByteArray} (h1 : t.size = 17) (h2 : digB t = true) : (decR t).2.2.2 ≠ 171 := by
  unfold decR
  rw [if_pos ⟨h1, h2⟩]
  split
  · split
    · simp [noDec]
    · split
      · simp [noDec]
      · split
        · simp
        · simp [noDec]
  · simp [noDec]
/-- What Decode returns: either an error and zeros, or what Encode turns back. -/
theorem decR_cases (t : ByteArray) : (∃ e, e ≠ 0 ∧ decR t = noDec e) ∨ ∃ c z p, decR t = (c, z, p, 0) ∧ encR c z p = (t, 0) := by
  unfold decR
  split
  · split
    · split
      · exact .inl ⟨170, by decide, rfl⟩
      · split
        · exact .inl ⟨170, by decide, rfl⟩
        · split
          · rename_i h; exact .inr ⟨_, _, _, rfl, h⟩
          · exact .inl ⟨170, by decide, rfl⟩
    · exact .inl ⟨172, by decide, rfl⟩
  · exact .inl ⟨171, by decide, rfl⟩
/-- A text with another byte at a place. -/
def putB (s : ByteArray) (i : Nat) (d : UInt8) : ByteArray := s.extract 0 i ++ ⟨#[d]⟩ ++ s.extract (i + 1) s.size
theorem extract_list (s : ByteArray) (a b : Nat) : (s.extract a b).data.toList = (s.data.toList.drop a).take (b - a) := by
  rw [ByteArray.data_extract, Array.toList_extract, List.extract_eq_take_drop]
theorem drop_all (s : ByteArray) (a : Nat) : (s.extract a s.size).data.toList = s.data.toList.drop a := by
  rw [extract_list]
  exact List.take_of_length_le (by simp)
theorem putB_list (s : ByteArray) (i : Nat) (d : UInt8) : (putB s i d).data.toList = s.data.toList.take i ++ d :: s.data.toList.drop (i + 1) := by
  unfold putB
  rw [ByteArray.data_append, ByteArray.data_append, Array.toList_append, Array.toList_append, drop_all, extract_list]
  simp
theorem split_at (s : ByteArray) (i : Nat) (h : i < s.size) : s.data.toList = s.data.toList.take i ++ s[i] :: s.data.toList.drop (i + 1) := by
  have : s[i] = s.data.toList[i]'h := rfl
  rw [this, ← List.drop_eq_getElem_cons h, List.take_append_drop]
theorem putB_size (s : ByteArray) (i : Nat) (d : UInt8) (h : i < s.size) : (putB s i d).size = s.size := by
  have h1 : (putB s i d).data.toList.length = (putB s i d).size := rfl
  have h2 : s.data.toList.length = s.size := rfl
  rw [← h1, putB_list]; simp; omega
theorem putB_dig {s : ByteArray} (hd : digB s = true) (i : Nat) {d : UInt8} (h2 : 48 ≤ d.toNat ∧ d.toNat ≤ 57) : digB (putB s i d) = true := by
  rw [digB_iff, putB_list]
  intro c hc
  rw [digB_iff] at hd
  rcases List.mem_append.1 hc with hc | hc
  · exact hd c (List.mem_of_mem_take hc)
  · rcases List.mem_cons.1 hc with rfl | hc
    · exact h2
    · exact hd c (List.mem_of_mem_drop hc)
/-- One digit turned: ErrCheck if it is another one. -/
theorem dec_put {s : ByteArray} (hs : s.size = 17) (hd : digB s = true) (hp : permB (valsOf s) = true) (h0 : (decR s).2.2.2 = 0) (i : Nat) (hi : i < s.size) (d : UInt8) (h2 : 48 ≤ d.toNat ∧ d.toNat ≤ 57) : ((decR (putB s i d)).2.2.2 = 172) ↔ d ≠ s[i] := by
  by_cases h : d = s[i]
  · subst h
    have e : putB s i s[i] = s := ba_inj2 (by rw [putB_list, ← split_at s i hi])
    rw [e, h0]
    simp
  · rw [decR_172 (by rw [putB_size s i d hi, hs]) (putB_dig hd i h2) (one_found (split_at s i hi) (putB_list s i d) hd h2 hp h)]
    simp [noDec, h]
theorem dec_any_byte {s : ByteArray} (hs : s.size = 17) (hd : digB s = true) (i : Nat) (hi : i < s.size) (d : UInt8) : ((decR (putB s i d)).2.2.2 = 171) ↔ ¬ (48 ≤ d.toNat ∧ d.toNat ≤ 57) := by
  by_cases h : 48 ≤ d.toNat ∧ d.toNat ≤ 57
  · have := decR_ne_171 (by rw [putB_size s i d hi, hs]) (putB_dig hd i h)
    simp [this]; omega
  · have hn : ¬ ((putB s i d).size = 17 ∧ digB (putB s i d) = true) := fun ⟨_, h2⟩ => by
      rw [digB_iff, putB_list] at h2
      exact h (h2 d (by simp))
    rw [decR_171 hn]
    simp [noDec]; omega
/-- Two neighbours exchanged. -/
def swapB (s : ByteArray) (i : Nat) : ByteArray := s.extract 0 i ++ s.extract (i + 1) (i + 2) ++ s.extract i (i + 1) ++ s.extract (i + 2) s.size
theorem one_list (s : ByteArray) (i : Nat) (h : i < s.size) : (s.extract i (i + 1)).data.toList = [s[i]] := by
  rw [extract_list]
  have : s[i] = s.data.toList[i]'h := rfl
  rw [this, List.drop_eq_getElem_cons h, Nat.add_sub_cancel_left, List.take_succ_cons, List.take_zero]
theorem swapB_list (s : ByteArray) (i : Nat) (h : i + 1 < s.size) : (swapB s i).data.toList = s.data.toList.take i ++ s[i + 1] :: s[i] :: s.data.toList.drop (i + 2) := by
  unfold swapB
  rw [ByteArray.data_append, ByteArray.data_append, ByteArray.data_append, Array.toList_append, Array.toList_append, Array.toList_append, drop_all, one_list s i (by omega), one_list s (i + 1) h, extract_list]
  simp
theorem split_two (s : ByteArray) (i : Nat) (h : i + 1 < s.size) : s.data.toList = s.data.toList.take i ++ s[i] :: s[i + 1] :: s.data.toList.drop (i + 2) := by
  have e1 := split_at s i (by omega)
  have : s[i + 1] = s.data.toList[i + 1]'h := rfl
  rw [List.drop_eq_getElem_cons h] at e1
  exact e1
theorem dec_swap {s : ByteArray} (hs : s.size = 17) (hd : digB s = true) (hp : permB (valsOf s) = true) (i : Nat) (hi : i + 1 < s.size) (hne : s[i] ≠ s[i + 1]) : (decR (swapB s i)).2.2.2 = 172 := by
  have hl := swapB_list s i hi
  have h1 := split_two s i hi
  have hsz : (swapB s i).size = 17 := by
    have a : (swapB s i).data.toList.length = (swapB s i).size := rfl
    have b : s.data.toList.length = s.size := rfl
    rw [← a, hl]
    rw [h1] at b
    simp at b ⊢
    omega
  have hdg : digB (swapB s i) = true := by
    rw [digB_iff, hl]
    rw [digB_iff, h1] at hd
    intro c hc
    refine hd c ?_
    simp only [List.mem_append, List.mem_cons] at hc ⊢
    rcases hc with h | h | h | h
    · exact .inl h
    · exact .inr (.inr (.inl h))
    · exact .inr (.inl h)
    · exact .inr (.inr (.inr h))
  rw [decR_172 hsz hdg (swap_found h1 hl hd hp hne)]
  rfl
theorem dec_short {s : ByteArray} (h : s.size ≠ 17) : (decR s).2.2.2 = 171 := by
  rw [decR_171 (fun h' => h h'.1)]; rfl
theorem padL_succ (n w : Nat) (hw : 1 ≤ w) : padL n (w + 1) = padL (n / 10) w ++ [UInt8.ofNat (48 + n % 10)] := by
  unfold padL
  by_cases hn : n < 10
  · rw [Lib.nDigits_small hn, dec_small hn, show n / 10 = 0 by omega, show n % 10 = n by omega, Lib.nDigits_small (by decide), dec_small (by decide)]
    obtain ⟨v, rfl⟩ : ∃ v, w = v + 1 := ⟨w - 1, by omega⟩
    rw [show v + 1 + 1 - 1 = v + 1 by omega, show v + 1 - 1 = v by omega, List.replicate_succ']
    simp
  · rw [Lib.nDigits_big hn, dec_big hn, Nat.add_sub_add_right, List.append_assoc]
/-- The last digits of a number, one by one. -/
def lastD (p : Nat) : Nat → List UInt8
  | 0 => []
  | i + 1 => UInt8.ofNat (48 + p / 10 ^ i % 10) :: lastD p i
theorem lastD_pad {p : Nat} (hp : p < 1000000) : lastD p 6 = padL p 6 := by
  have e : padL (p / 10 / 10 / 10 / 10 / 10) 1 = [UInt8.ofNat (48 + p / 10 / 10 / 10 / 10 / 10)] := by
    unfold padL
    rw [Lib.nDigits_small (by omega), dec_small (by omega)]; rfl
  rw [padL_succ p 5 (by decide), padL_succ _ 4 (by decide), padL_succ _ 3 (by decide), padL_succ _ 2 (by decide), padL_succ _ 1 (by decide), e]
  have h5 : p / 10 / 10 / 10 / 10 / 10 = p / 100000 % 10 := by omega
  have h4 : p / 10 / 10 / 10 / 10 % 10 = p / 10000 % 10 := by omega
  have h3 : p / 10 / 10 / 10 % 10 = p / 1000 % 10 := by omega
  have h2 : p / 10 / 10 % 10 = p / 100 % 10 := by omega
  rw [h5, h4, h3, h2]
  simp [lastD]
/-- The code that some numbers tell. -/
def zipL (j : Nat) (f : Nat → Nat) : List UInt8 := (List.range (patOf j).length).map (fun i => if (patOf j).getD i false then UInt8.ofNat (65 + f i % 26) else UInt8.ofNat (48 + f i % 10))
theorem matches_map : ∀ (ks : List Bool) (l : List UInt8), l.length = ks.length → (∀ i (h : i < l.length) (h2 : i < ks.length), kindB ks[i] (l[i].toNat : Int) = true) → matchesB l ks = true
  | [], [], _, _ => rfl
  | [], _ :: _, h, _ => by simp at h
  | _ :: _, [], h, _ => by simp at h
  | k :: ks, c :: l, h, hk => by
    rw [matchesB, Bool.and_eq_true]
    exact ⟨hk 0 (by simp) (by simp), matches_map ks l (by simpa using h) (fun i h1 h2 => hk (i + 1) (by simpa using h1) (by simpa using h2))⟩
theorem zipL_ok (j : Nat) (f : Nat → Nat) : matchesB (zipL j f) (patOf j) = true := by
  refine matches_map _ _ (by simp [zipL]) (fun i h h2 => ?_)
  simp only [zipL, List.getElem_map, List.getElem_range]
  rw [List.getD_eq_getElem?_getD, List.getElem?_eq_getElem h2, Option.getD_some]
  cases (patOf j)[i]
  · show isDigit _ = true
    apply isDigit_true
    simp only [Bool.false_eq_true, if_false]
    rw [UInt8.toNat_ofNat']; omega
  · show isLetter _ = true
    simp only [if_true]
    rw [UInt8.toNat_ofNat']
    unfold isLetter
    simp
    omega
end Go.Proofs.YtgdlgfplheeblaaGreatDoor
