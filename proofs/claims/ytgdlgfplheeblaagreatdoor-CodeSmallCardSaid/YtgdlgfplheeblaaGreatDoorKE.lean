/-
  Package code: what Encode and Decode compute, in plain words.
-/
import Derived.Test.YtgdlgfplheeblaaGreatDoorKC
namespace Go.Proofs.YtgdlgfplheeblaaGreatDoor
open Go.RowKit
set_option linter.unusedVariables false
set_option maxRecDepth 100000
def baE : ByteArray := ⟨#[]⟩
/-- What Encode returns. -/
def encR (c : Int) (s : ByteArray) (p : Int) : ByteArray × Int :=
  if c < 1 ∨ 3 < c ∨ p < 1 ∨ 999999 < p then (baE, 2)
  else if validB c s = false then (baE, 170)
  else (checked ⟨(bodyL c.toNat s.data.toList p.toNat).toArray⟩, 0)
/-- The code that some digits are. -/
def unnum : List Bool → List UInt8 → Option (List UInt8)
  | [], _ => some []
  | false :: ks, c :: l => (unnum ks l).map (c :: ·)
  | true :: ks, a :: b :: l => if 10 * (a.toNat - 48) + (b.toNat - 48) < 1 ∨ 26 < 10 * (a.toNat - 48) + (b.toNat - 48) then none else (unnum ks l).map (UInt8.ofNat (64 + (10 * (a.toNat - 48) + (b.toNat - 48))) :: ·)
  | _, _ => none
def widthL (ks : List Bool) : Nat := (ks.map (fun k => if k then 2 else 1)).sum
def codeOfL (j : Nat) (d : List UInt8) : Option (List UInt8) :=
  if (d.take (9 - widthL (patOf j))).all (fun c => c == 48) then unnum (patOf j) (d.drop (9 - widthL (patOf j))) else none
def numOf (l : List UInt8) : Nat := (Lib.decFrom 0 l).getD 0
def noDec (e : Int) : Int × ByteArray × Int × Int := (0, baE, 0, e)
def headC (t : ByteArray) : Nat := (t.data.toList.headD 0).toNat - 48
/-- What Decode returns. -/
def decR (t : ByteArray) : Int × ByteArray × Int × Int :=
  if t.size = 17 ∧ digB t = true then
    if permB (valsOf t) = true then
      if headC t < 1 ∨ 3 < headC t then noDec 170
      else match codeOfL (headC t) ((t.data.toList.drop 1).take 9) with
        | none => noDec 170
        | some l => if encR (headC t : Nat) ⟨l.toArray⟩ (numOf ((t.data.toList.drop 10).take 6) : Nat) = (t, 0) then ((headC t : Nat), ⟨l.toArray⟩, (numOf ((t.data.toList.drop 10).take 6) : Nat), 0) else noDec 170
    else noDec 172
  else noDec 171
theorem dec_small {n : Nat} (h : n < 10) : Lib.decDigits n = [UInt8.ofNat (48 + n)] := by rw [Lib.decDigits, dif_pos h]
theorem dec_big {n : Nat} (h : ¬ n < 10) : Lib.decDigits n = Lib.decDigits (n / 10) ++ [UInt8.ofNat (48 + n % 10)] := by rw [Lib.decDigits, dif_neg h]
theorem padL_two {n : Nat} (h : n < 100) : padL n 2 = [UInt8.ofNat (48 + n / 10), UInt8.ofNat (48 + n % 10)] := by
  unfold padL
  by_cases hn : n < 10
  · rw [Lib.nDigits_small hn, dec_small hn, show n / 10 = 0 by omega, show n % 10 = n by omega]; rfl
  · rw [Lib.nDigits_big hn, Lib.nDigits_small (by omega), dec_big hn, dec_small (by omega)]; rfl
theorem unnum_num : ∀ {ks : List Bool} {l : List UInt8}, matchesB l ks = true → ∀ r, unnum ks (numL ks l ++ r) = some l
  | [], [], _, r => rfl
  | [], _ :: _, h, _ => by cases h
  | _ :: _, [], h, _ => by cases h
  | false :: ks, c :: l, h, r => by
    rw [matchesB, Bool.and_eq_true] at h
    show unnum (false :: ks) ([c] ++ numL ks l ++ r) = _
    rw [List.append_assoc, List.singleton_append, unnum, unnum_num h.2 r]
    rfl
  | true :: ks, c :: l, h, r => by
    rw [matchesB, Bool.and_eq_true] at h
    have hl : isLetter (c.toNat : Int) = true := h.1
    unfold isLetter at hl
    simp at hl
    have e : numL (true :: ks) (c :: l) = padL (c.toNat - 64) 2 ++ numL ks l := rfl
    rw [e, padL_two (by omega), List.append_assoc, List.cons_append, List.cons_append, List.nil_append, unnum, unnum_num h.2 r]
    have e2 : 10 * ((UInt8.ofNat (48 + (c.toNat - 64) / 10)).toNat - 48) + ((UInt8.ofNat (48 + (c.toNat - 64) % 10)).toNat - 48) = c.toNat - 64 := by
      rw [UInt8.toNat_ofNat', UInt8.toNat_ofNat']; omega
    rw [e2, if_neg (by omega)]
    have e3 : UInt8.ofNat (64 + (c.toNat - 64)) = c := by
      apply UInt8.toNat_inj.1; rw [UInt8.toNat_ofNat']; omega
    rw [e3]
    rfl
theorem num_unnum : ∀ {ks : List Bool} {d : List UInt8} {l : List UInt8}, (∀ c ∈ d, 48 ≤ c.toNat ∧ c.toNat ≤ 57) → unnum ks d = some l → matchesB l ks = true ∧ d.take (widthL ks) = numL ks l
  | [], d, l, _, h => by
    have : l = [] := by simpa [unnum, eq_comm] using h
    subst this
    exact ⟨rfl, by simp [widthL, numL]⟩
  | false :: ks, [], l, _, h => by simp [unnum] at h
  | true :: ks, [], l, _, h => by simp [unnum] at h
  | true :: ks, [_], l, _, h => by simp [unnum] at h
  | false :: ks, c :: d, l, hd, h => by
    rw [unnum, Option.map_eq_some_iff] at h
    obtain ⟨m, hm, rfl⟩ := h
    obtain ⟨a, b⟩ := num_unnum (fun x hx => hd x (List.mem_cons_of_mem _ hx)) hm
    have hc := hd c List.mem_cons_self
    refine ⟨?_, ?_⟩
    · rw [matchesB, a, Bool.and_true]
      show isDigit (c.toNat : Int) = true
      exact isDigit_true (by omega)
    · have e : widthL (false :: ks) = widthL ks + 1 := by simp [widthL]; omega
      rw [e, List.take_succ_cons, b]
      rfl
  | true :: ks, x :: y :: d, l, hd, h => by
    rw [unnum] at h
    have hx := hd x List.mem_cons_self
    have hy := hd y (List.mem_cons_of_mem _ List.mem_cons_self)
    split at h
    · cases h
    · rename_i hn
      rw [Option.map_eq_some_iff] at h
      obtain ⟨m, hm, rfl⟩ := h
      obtain ⟨a, b⟩ := num_unnum (fun z hz => hd z (List.mem_cons_of_mem _ (List.mem_cons_of_mem _ hz))) hm
      obtain ⟨n, hne⟩ : ∃ n, 10 * (x.toNat - 48) + (y.toNat - 48) = n := ⟨_, rfl⟩
      rw [hne] at hn
      rw [hne]
      have h64 : (UInt8.ofNat (64 + n)).toNat = 64 + n := by rw [UInt8.toNat_ofNat']; omega
      refine ⟨?_, ?_⟩
      · rw [matchesB, a, Bool.and_true]
        show isLetter ((UInt8.ofNat (64 + n)).toNat : Int) = true
        rw [h64]
        unfold isLetter
        simp
        omega
      · have e : widthL (true :: ks) = widthL ks + 2 := by simp [widthL]; omega
        rw [e, List.take_succ_cons, List.take_succ_cons, b]
        have e2 : numL (true :: ks) (UInt8.ofNat (64 + n) :: m) = padL ((UInt8.ofNat (64 + n)).toNat - 64) 2 ++ numL ks m := rfl
        rw [e2, h64, show 64 + n - 64 = n by omega, padL_two (by omega)]
        have ex : UInt8.ofNat (48 + n / 10) = x := by apply UInt8.toNat_inj.1; rw [UInt8.toNat_ofNat']; omega
        have ey : UInt8.ofNat (48 + n % 10) = y := by apply UInt8.toNat_inj.1; rw [UInt8.toNat_ofNat']; omega
        rw [ex, ey]
        rfl
theorem patOf_width {j : Nat} (hj : j = 1 ∨ j = 2 ∨ j = 3) : widthL (patOf j) = if j = 1 then 5 else if j = 2 then 9 else 4 := by rcases hj with rfl | rfl | rfl <;> rfl
theorem numL_width {j : Nat} {l : List UInt8} (h : matchesB l (patOf j) = true) : (numL (patOf j) l).length = widthL (patOf j) := (numL_digit h).2
theorem codeOf_num {j : Nat} (hj : j = 1 ∨ j = 2 ∨ j = 3) {l : List UInt8} (h : matchesB l (patOf j) = true) : codeOfL j (List.replicate (9 - (numL (patOf j) l).length) 48 ++ numL (patOf j) l) = some l := by
  unfold codeOfL
  rw [numL_width h]
  have e1 : (List.replicate (9 - widthL (patOf j)) (48 : UInt8) ++ numL (patOf j) l).take (9 - widthL (patOf j)) = List.replicate (9 - widthL (patOf j)) 48 := by rw [List.take_left' (by simp)]
  have e2 : (List.replicate (9 - widthL (patOf j)) (48 : UInt8) ++ numL (patOf j) l).drop (9 - widthL (patOf j)) = numL (patOf j) l := by rw [List.drop_left' (by simp)]
  rw [e1, e2, if_pos (by simp)]
  have := unnum_num h []
  rwa [List.append_nil] at this
theorem checked_data (s : ByteArray) : (checked s).data.toList = s.data.toList ++ [UInt8.ofNat (48 + checkD s)] := by
  unfold checked charB
  rw [ByteArray.data_append, Array.toList_append]
theorem body_split {j : Nat} (hj : j = 1 ∨ j = 2 ∨ j = 3) {l : List UInt8} (h : matchesB l (patOf j) = true) {p : Nat} (hp : p < 1000000) (t : List UInt8) :
    (bodyL j l p ++ t).headD 0 = UInt8.ofNat (48 + j) ∧ ((bodyL j l p ++ t).drop 1).take 9 = List.replicate (9 - (numL (patOf j) l).length) 48 ++ numL (patOf j) l ∧ ((bodyL j l p ++ t).drop 10).take 6 = padL p 6 := by
  have hw := numL_width h
  have hwl : widthL (patOf j) ≤ 9 := by rcases hj with rfl | rfl | rfl <;> decide
  have h9 : (List.replicate (9 - (numL (patOf j) l).length) (48 : UInt8) ++ numL (patOf j) l).length = 9 := by simp; omega
  have h6 := padL_len (n := p) (width := 6) (by decide) (by omega)
  have e : bodyL j l p ++ t = UInt8.ofNat (48 + j) :: ((List.replicate (9 - (numL (patOf j) l).length) 48 ++ numL (patOf j) l) ++ (padL p 6 ++ t)) := by
    unfold bodyL; simp
  rw [e]
  refine ⟨rfl, ?_, ?_⟩
  · rw [List.drop_succ_cons, List.drop_zero, List.take_left' h9]
  · rw [List.drop_succ_cons, List.drop_left' h9, List.take_left' h6]
def encB (j : Nat) (l : List UInt8) (p : Nat) : ByteArray := checked ⟨(bodyL j l p).toArray⟩
theorem body_dig {j : Nat} (hj : j = 1 ∨ j = 2 ∨ j = 3) {l : List UInt8} (h : matchesB l (patOf j) = true) {p : Nat} (hp : p < 1000000) : digB ⟨(bodyL j l p).toArray⟩ = true ∧ (⟨(bodyL j l p).toArray⟩ : ByteArray).size = 16 := by
  obtain ⟨a, b⟩ := bodyL_facts hj h hp
  exact ⟨digB_iff.2 (fun c hc => b c hc), a⟩
theorem charB_dig {n : Nat} (h : n < 10) : digB (charB n) = true := digB_iff.2 (fun c hc => by
  have : c = UInt8.ofNat (48 + n) := by simpa [charB] using hc
  subst this
  rw [UInt8.toNat_ofNat']; omega)
theorem checked_facts {s : ByteArray} (h : digB s = true) : digB (checked s) = true ∧ (checked s).size = s.size + 1 ∧ permB (valsOf (checked s)) = true := by
  have hc := checkD_lt h
  refine ⟨digB_append h (charB_dig hc), by unfold checked; rw [ByteArray.size_append]; rfl, ?_⟩
  have hv : valsOf (checked s) = checkV (valsOf s) :: valsOf s := by
    have hsz : (checked s).size = s.size + 1 := by unfold checked; rw [ByteArray.size_append]; rfl
    have h0 : valAt (checked s) 0 = checkD s := by
      unfold valAt
      rw [hsz, checked_data, show s.size + 1 - 1 - 0 = s.data.toList.length from rfl, List.getD_eq_getElem?_getD, List.getElem?_append_right (Nat.le_refl _), Nat.sub_self]
      show (UInt8.ofNat (48 + checkD s)).toNat - 48 = checkD s
      rw [UInt8.toNat_ofNat']; omega
    have hu : updZ (valAt (checked s)) (checkD s) = valAt (checked s) := by rw [← h0]; exact updZ_self _
    unfold valsOf
    rw [hsz, ← hu, vals_split (by omega)]
    have := rest_snoc s (UInt8.ofNat (48 + checkD s))
    rw [show restV (s.size + 1) (valAt (checked s)) = valsOf s from this]
    rfl
  rw [hv]
  exact (checkV_ok (valsOf_lt h)).2.1
theorem encB_facts {j : Nat} (hj : j = 1 ∨ j = 2 ∨ j = 3) {l : List UInt8} (h : matchesB l (patOf j) = true) {p : Nat} (hp : p < 1000000) : digB (encB j l p) = true ∧ (encB j l p).size = 17 ∧ permB (valsOf (encB j l p)) = true := by
  obtain ⟨a, b⟩ := body_dig hj h hp
  obtain ⟨c, d, e⟩ := checked_facts a
  exact ⟨c, by rw [show (encB j l p).size = _ from d, b], e⟩
theorem encR_ok {j : Nat} (hj : j = 1 ∨ j = 2 ∨ j = 3) {l : List UInt8} (h : matchesB l (patOf j) = true) {p : Nat} (hp1 : 1 ≤ p) (hp2 : p ≤ 999999) : encR (j : Nat) ⟨l.toArray⟩ (p : Nat) = (encB j l p, 0) := by
  unfold encR
  rw [if_neg (by omega)]
  have hv : validB (j : Nat) ⟨l.toArray⟩ = true := by
    unfold validB
    rw [Int.toNat_natCast, show (⟨l.toArray⟩ : ByteArray).data.toList = l from rfl, h]
    rcases hj with rfl | rfl | rfl <;> rfl
  rw [hv, if_neg (by decide), Int.toNat_natCast, Int.toNat_natCast]
  rfl
theorem numOf_pad (p w : Nat) : numOf (padL p w) = p := by unfold numOf; rw [padL_val]; rfl
/-- Decode gives back what was encoded. -/
theorem dec_enc {j : Nat} (hj : j = 1 ∨ j = 2 ∨ j = 3) {l : List UInt8} (h : matchesB l (patOf j) = true) {p : Nat} (hp1 : 1 ≤ p) (hp2 : p ≤ 999999) : decR (encB j l p) = (((j : Nat) : Int), (⟨l.toArray⟩ : ByteArray), ((p : Nat) : Int), (0 : Int)) := by
  obtain ⟨a, b, c⟩ := encB_facts hj h (p := p) (by omega)
  have hd : (encB j l p).data.toList = bodyL j l p ++ [UInt8.ofNat (48 + checkD ⟨(bodyL j l p).toArray⟩)] := checked_data _
  obtain ⟨e1, e2, e3⟩ := body_split hj h (p := p) (by omega) [UInt8.ofNat (48 + checkD ⟨(bodyL j l p).toArray⟩)]
  have hh : headC (encB j l p) = j := by
    unfold headC
    rw [hd, e1, UInt8.toNat_ofNat']; omega
  unfold decR
  rw [if_pos ⟨b, a⟩, if_pos c, hh, if_neg (by omega), hd, e2, codeOf_num hj h, e3, numOf_pad]
  simp only
  rw [encR_ok hj h hp1 hp2, if_pos rfl]
theorem enc_inj {j j' : Nat} (hj : j = 1 ∨ j = 2 ∨ j = 3) (hj' : j' = 1 ∨ j' = 2 ∨ j' = 3) {l l' : List UInt8} (h : matchesB l (patOf j) = true) (h' : matchesB l' (patOf j') = true) {p p' : Nat} (hp1 : 1 ≤ p) (hp2 : p ≤ 999999) (hp1' : 1 ≤ p') (hp2' : p' ≤ 999999) (he : encB j l p = encB j' l' p') : j = j' ∧ l = l' ∧ p = p' := by
  have a := dec_enc hj h hp1 hp2
  have b := dec_enc hj' h' hp1' hp2'
  rw [he, b] at a
  have a1 := congrArg (fun x => x.1) a
  have a2 := congrArg (fun x => x.2.1.data.toList) a
  have a3 := congrArg (fun x => x.2.2.1) a
  simp only at a1 a2 a3
  exact ⟨by omega, by simpa using a2.symm, by omega⟩
end Go.Proofs.YtgdlgfplheeblaaGreatDoor
