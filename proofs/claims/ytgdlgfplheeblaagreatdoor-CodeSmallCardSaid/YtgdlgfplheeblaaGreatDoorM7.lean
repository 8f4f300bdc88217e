/-
  The reference's Decode of layer 17, in plain words: it returns what the program's returns.
-/
import Derived.Test.YtgdlgfplheeblaaGreatDoorKH
namespace Go.Proofs.YtgdlgfplheeblaaGreatDoor
open Go.RowKit
set_option linter.unusedVariables false
set_option maxRecDepth 100000
/-- A payload tells its code. -/
theorem code_unique {j : Nat} (hj : j = 1 ∨ j = 2 ∨ j = 3) {z t : ByteArray} {p : Int} (h : encR (j : Nat) z p = (t, 0)) : codeOfL j ((t.data.toList.drop 1).take 9) = some z.data.toList := by
  unfold encR at h
  split at h
  · have := congrArg Prod.snd h; simp at this
  · rename_i hr
    split at h
    · have := congrArg Prod.snd h; simp at this
    · rename_i hv
      have hv' : validB (j : Nat) z = true := by simpa using hv
      unfold validB at hv'
      rw [Bool.and_eq_true, Int.toNat_natCast] at hv'
      rw [Int.toNat_natCast] at h
      have ht : t = encB j z.data.toList p.toNat := (congrArg Prod.fst h).symm
      have hd : t.data.toList = bodyL j z.data.toList p.toNat ++ [UInt8.ofNat (48 + checkD ⟨(bodyL j z.data.toList p.toNat).toArray⟩)] := by rw [ht]; exact checked_data _
      obtain ⟨_, e2, _⟩ := body_split hj hv'.2 (p := p.toNat) (by omega) [UInt8.ofNat (48 + checkD ⟨(bodyL j z.data.toList p.toNat).toArray⟩)]
      rw [hd, e2, codeOf_num hj hv'.2]
theorem unnum_digits : ∀ (n : Nat) (l : List UInt8), l.length = n → unnum (List.replicate n false) l = some l
  | 0, [], _ => rfl
  | 0, _ :: _, h => by simp at h
  | n + 1, [], h => by simp at h
  | n + 1, c :: l, h => by
    rw [List.replicate_succ, unnum, unnum_digits n l (by simpa using h)]
    rfl
/-- The code that the reference takes from the text of a payload. -/
def codeRef (n : Nat) (t : ByteArray) : Option ByteArray :=
  if n = 1 then some (t.extract 5 10)
  else if n = 2 then (unnum (patOf 2) ((t.data.toList.drop 1).take 9)).map (fun l => ⟨l.toArray⟩)
  else if n = 3 then some (t.extract 6 10)
  else some ⟨#[]⟩
def numT (t : ByteArray) : Nat := numOf ((t.data.toList.drop 10).take 6)
def decRef (n : Nat) (t : ByteArray) : Int × ByteArray × Int × Int :=
  match codeRef n t with
  | none => noDec 170
  | some z => if encR (n : Nat) z (numT t : Nat) = (t, 0) then ((n : Nat), z, (numT t : Nat), 0) else noDec 170
theorem dec_ref {t : ByteArray} (h17 : t.size = 17) (hd : digB t = true) (hp : permB (valsOf t) = true) : decR t = decRef (headC t) t := by
  unfold decR
  rw [if_pos ⟨h17, hd⟩, if_pos hp]
  obtain ⟨n, hn⟩ : ∃ n, headC t = n := ⟨_, rfl⟩
  rw [hn]
  by_cases hr : n < 1 ∨ 3 < n
  · rw [if_pos hr]
    unfold decRef codeRef
    rw [if_neg (by omega), if_neg (by omega), if_neg (by omega)]
    have : encR (n : Nat) ⟨#[]⟩ (numT t : Nat) = (baE, 2) := by unfold encR; rw [if_pos (by omega)]
    simp only
    rw [this, if_neg (fun h => by have := congrArg Prod.snd h; simp at this)]
  · rw [if_neg hr]
    have hj : n = 1 ∨ n = 2 ∨ n = 3 := by omega
    have hlen : ((t.data.toList.drop 1).take 9).length = 9 := by
      have : t.data.toList.length = 17 := h17
      rw [List.length_take, List.length_drop]; omega
    have key : ∀ z, codeRef n t = some z → codeOfL n ((t.data.toList.drop 1).take 9) = none → encR (n : Nat) z (numT t : Nat) ≠ (t, 0) := fun z _ h he => by
      have := code_unique hj he
      rw [h] at this; cases this
    have yes : ∀ l, codeOfL n ((t.data.toList.drop 1).take 9) = some l → codeRef n t = some ⟨l.toArray⟩ := fun l hl => by
      unfold codeOfL at hl
      split at hl
      · rcases hj with rfl | rfl | rfl
        · have e : (9 - widthL (patOf 1)) = 4 := rfl
          rw [e, show patOf 1 = List.replicate 5 false from rfl, unnum_digits 5 _ (by rw [List.length_drop, hlen])] at hl
          have := Option.some.inj hl
          unfold codeRef
          rw [if_pos rfl, ← this]
          congr 1
          apply ba_inj2
          rw [extract_list]
          show _ = ((t.data.toList.drop 1).take 9).drop 4
          rw [List.drop_take, List.drop_drop]
        · have e : (9 - widthL (patOf 2)) = 0 := rfl
          rw [e, List.drop_zero] at hl
          unfold codeRef
          rw [if_neg (by decide), if_pos rfl, hl]
          rfl
        · have e : (9 - widthL (patOf 3)) = 5 := rfl
          rw [e, show patOf 3 = List.replicate 4 false from rfl, unnum_digits 4 _ (by rw [List.length_drop, hlen])] at hl
          have := Option.some.inj hl
          unfold codeRef
          rw [if_neg (by decide), if_neg (by decide), if_pos rfl, ← this]
          congr 1
          apply ba_inj2
          rw [extract_list]
          show _ = ((t.data.toList.drop 1).take 9).drop 5
          rw [List.drop_take, List.drop_drop]
      · cases hl
    unfold decRef
    cases hc : codeOfL n ((t.data.toList.drop 1).take 9) with
    | some l => rw [yes l hc]; rfl
    | none =>
      cases hk : codeRef n t with
      | none => rfl
      | some z => simp only; rw [if_neg (key z hk hc)]
/-- One letter and one digit of a code of country 2. -/
theorem unnum_step (ks : List Bool) (a b c : UInt8) (l : List UInt8) : unnum (true :: false :: ks) (a :: b :: c :: l) =
    if 10 * (a.toNat - 48) + (b.toNat - 48) < 1 ∨ 26 < 10 * (a.toNat - 48) + (b.toNat - 48) then none else (unnum ks l).map ([UInt8.ofNat (64 + (10 * (a.toNat - 48) + (b.toNat - 48))), c] ++ ·) := by
  rw [unnum]
  split
  · rfl
  · rw [unnum, Option.map_map]
    rfl
theorem num_two (a b : UInt8) (ha : 48 ≤ a.toNat ∧ a.toNat ≤ 57) (hb : 48 ≤ b.toNat ∧ b.toNat ≤ 57) : numOf [a, b] = 10 * (a.toNat - 48) + (b.toNat - 48) := by
  unfold numOf
  simp only [Lib.decFrom, digitVal_ok ha, digitVal_ok hb, Option.getD_some]
  omega
theorem pat_step (m : Nat) (h : m < 3) : (patOf 2).drop (2 * m) = true :: false :: (patOf 2).drop (2 * (m + 1)) :=
  (by decide : ∀ m : Fin 3, (patOf 2).drop (2 * m.1) = true :: false :: (patOf 2).drop (2 * (m.1 + 1))) ⟨m, h⟩
/-- The nine digits of a code, from a place on. -/
def nineAt (t : ByteArray) (m : Nat) : List UInt8 := ((t.data.toList.drop 1).take 9).drop (3 * m)
theorem nine_step {t : ByteArray} (h17 : t.size = 17) (m : Nat) (h : m < 3) : nineAt t m = (t[1 + 3 * m]'(by omega)) :: (t[1 + 3 * m + 1]'(by omega)) :: (t[1 + 3 * m + 2]'(by omega)) :: nineAt t (m + 1) := by
  have hl : t.data.toList.length = 17 := h17
  unfold nineAt
  have e : ∀ k (h : k < 9), ((t.data.toList.drop 1).take 9).drop k = (t[1 + k]'(by omega)) :: ((t.data.toList.drop 1).take 9).drop (k + 1) := fun k hk => by
    have hk' : k < ((t.data.toList.drop 1).take 9).length := by rw [List.length_take, List.length_drop]; omega
    rw [List.drop_eq_getElem_cons hk']
    congr 1
    rw [List.getElem_take, List.getElem_drop]
    rfl
  rw [e (3 * m) (by omega), e (3 * m + 1) (by omega), e (3 * m + 2) (by omega)]
  rfl
theorem nine_end (t : ByteArray) (h17 : t.size = 17) : nineAt t 3 = [] := by
  have hl : t.data.toList.length = 17 := h17
  unfold nineAt
  rw [List.drop_eq_nil_iff, List.length_take, List.length_drop]; omega
/-- What has been read of a code of country 2: the rest decides. -/
def ReadTo (t : ByteArray) (m : Nat) (z : ByteArray) : Prop := unnum (patOf 2) ((t.data.toList.drop 1).take 9) = (unnum ((patOf 2).drop (2 * m)) (nineAt t m)).map (z.data.toList ++ ·)
theorem readTo_zero (t : ByteArray) : ReadTo t 0 ⟨#[]⟩ := by
  unfold ReadTo nineAt
  show _ = Option.map (fun x => [] ++ x) (unnum (patOf 2) ((t.data.toList.drop 1).take 9))
  simp
theorem readTo_bad {t z : ByteArray} (h17 : t.size = 17) (hd : digB t = true) {m : Nat} (hm : m < 3) (h : ReadTo t m z) (hb : numOf (t.extract (1 + 3 * m) (1 + 3 * m + 2)).data.toList < 1 ∨ 26 < numOf (t.extract (1 + 3 * m) (1 + 3 * m + 2)).data.toList) : codeRef 2 t = none := by
  have e1 := pat_step m hm
  have e2 := nine_step h17 m hm
  have da : ∀ k (h : k < t.size), 48 ≤ (t[k]'h).toNat ∧ (t[k]'h).toNat ≤ 57 := fun k h => digB_iff.1 hd (t[k]'h) (Array.mem_toList_iff.2 (Array.getElem_mem (xs := t.data) h))
  have e3 : (t.extract (1 + 3 * m) (1 + 3 * m + 2)).data.toList = [t[1 + 3 * m]'(by omega), t[1 + 3 * m + 1]'(by omega)] := by
    rw [extract_list, List.drop_eq_getElem_cons (show 1 + 3 * m < t.data.toList.length from (by show 1 + 3 * m < t.size; omega)), List.drop_eq_getElem_cons (show 1 + 3 * m + 1 < t.data.toList.length from (by show 1 + 3 * m + 1 < t.size; omega)), show 1 + 3 * m + 2 - (1 + 3 * m) = 2 by omega]
    rfl
  rw [e3, num_two _ _ (da _ _) (da _ _)] at hb
  unfold ReadTo at h
  rw [e1, e2, unnum_step, if_pos hb] at h
  unfold codeRef
  rw [if_neg (by decide), if_pos rfl, h]
  rfl
theorem readTo_next {t z : ByteArray} (h17 : t.size = 17) (hd : digB t = true) {m n : Nat} (hm : m < 3) (h : ReadTo t m z) (hn : numOf (t.extract (1 + 3 * m) (1 + 3 * m + 2)).data.toList = n) (h1 : 1 ≤ n) (h2 : n ≤ 26) :
    ReadTo t (m + 1) (z ++ (⟨#[UInt8.ofNat (64 + n)]⟩ ++ t.extract (1 + 3 * m + 2) (1 + 3 * m + 3))) := by
  have e1 := pat_step m hm
  have e2 := nine_step h17 m hm
  have da : ∀ k (h : k < t.size), 48 ≤ (t[k]'h).toNat ∧ (t[k]'h).toNat ≤ 57 := fun k h => digB_iff.1 hd (t[k]'h) (Array.mem_toList_iff.2 (Array.getElem_mem (xs := t.data) h))
  have e3 : (t.extract (1 + 3 * m) (1 + 3 * m + 2)).data.toList = [t[1 + 3 * m]'(by omega), t[1 + 3 * m + 1]'(by omega)] := by
    rw [extract_list, List.drop_eq_getElem_cons (show 1 + 3 * m < t.data.toList.length from (by show 1 + 3 * m < t.size; omega)), List.drop_eq_getElem_cons (show 1 + 3 * m + 1 < t.data.toList.length from (by show 1 + 3 * m + 1 < t.size; omega)), show 1 + 3 * m + 2 - (1 + 3 * m) = 2 by omega]
    rfl
  rw [e3, num_two _ _ (da _ _) (da _ _)] at hn
  unfold ReadTo at h ⊢
  rw [e1, e2, unnum_step, hn, if_neg (by omega)] at h
  rw [h, Option.map_map]
  have e4 : (z ++ (⟨#[UInt8.ofNat (64 + n)]⟩ ++ t.extract (1 + 3 * m + 2) (1 + 3 * m + 3))).data.toList = z.data.toList ++ [UInt8.ofNat (64 + n), t[1 + 3 * m + 2]'(by omega)] := by
    have e5 := one_list t (1 + 3 * m + 2) (by omega)
    rw [ByteArray.data_append, Array.toList_append, ByteArray.data_append, Array.toList_append, show (1 + 3 * m + 3) = 1 + 3 * m + 2 + 1 by omega, e5]
    rfl
  rw [e4]
  congr 1
  funext x
  simp
theorem readTo_end {t z : ByteArray} (h17 : t.size = 17) (h : ReadTo t 3 z) : codeRef 2 t = some z := by
  unfold ReadTo at h
  rw [nine_end t h17] at h
  unfold codeRef
  rw [if_neg (by decide), if_pos rfl, h]
  show some (⟨(z.data.toList ++ []).toArray⟩ : ByteArray) = some z
  rw [List.append_nil]
end Go.Proofs.YtgdlgfplheeblaaGreatDoor
