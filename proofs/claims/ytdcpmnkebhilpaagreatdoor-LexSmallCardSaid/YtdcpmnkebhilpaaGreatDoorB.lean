/-
  Contracts of number, lettered, name and matches of package lex.
-/
import Derived.Test.YtdcpmnkebhilpaaGreatDoorA
import Derived.OneCell
namespace Go.Proofs.YtdcpmnkebhilpaaGreatDoor
open Go.RowKit
def head0 (s : ByteArray) : Bool := s.data.toList.head? == some 48
def numberB (s : ByteArray) : Bool := decide (0 < s.size) && decide (s.size ≤ 6) && !head0 s && allB isDigit s
theorem head0_eq (s : ByteArray) (h : 0 < s.size) : head0 s = decide ((s[0].toNat : Int) = 48) := by
  unfold head0
  have e : s.data.toList.head? = some s[0] := by
    rw [List.head?_eq_getElem?]; exact List.getElem?_eq_getElem (by simpa using h)
  rw [e]
  have : (some s[0] == some (48 : UInt8)) = (s[0] == 48) := rfl
  rw [this, Bool.eq_iff_iff]
  simp only [beq_iff_eq, decide_eq_true_eq]
  constructor
  · intro e; rw [e]; rfl
  · intro e; exact UInt8.toNat_inj.1 (by simpa using Int.ofNat_inj.1 e)
theorem ne_of_pos {s : ByteArray} (h : 0 < s.size) : s.toList.isEmpty = false ∧ ¬ s.toList = [] := by
  have e : s.toList = s.data.toList := ByteArray.toList_eq s
  have hl : s.data.toList.length = s.size := by simp
  rw [e]
  cases hh : s.data.toList with
  | nil => rw [hh] at hl; simp at hl; omega
  | cons a l => simp
theorem eq_of_not_pos {s : ByteArray} (h : ¬ 0 < s.size) : s.toList.isEmpty = true ∧ s.toList = [] := by
  have e : s.toList = s.data.toList := ByteArray.toList_eq s
  have hl : s.data.toList.length = s.size := by simp
  rw [e]
  cases hh : s.data.toList with
  | nil => simp
  | cons a l => rw [hh] at hl; simp at hl; omega
theorem number_any (s : ByteArray) (w : World) (hs : s.size ≤ maxLen) :
    Calls Tryz.prog 38 #[.string s] w fun e w' => e = .returned (.bool (numberB s)) ∧ w = w' := by
  by_cases h0 : 0 < s.size
  · obtain ⟨ne1, ne2⟩ := ne_of_pos h0
    by_cases h1 : s.size ≤ 6
    · by_cases h2 : (s[0].toNat : Int) = 48
      · have h3 : ((s[0].toNat : Int) != 48) = false := by simpa using h2
        have hf : numberB s = false := by unfold numberB; rw [head0_eq s h0]; simp [h2]
        have HF := Lib.hid hf
        clear h2 hf
        go_enter Tryz.func38, Tryz.ntmps38
        go_wp2_with fail
        go_ret
        exact ⟨ret_bool HF.out.symm, rfl⟩
      · have h3 : ((s[0].toNat : Int) != 48) = true := by simpa using h2
        have hf : numberB s = allB isDigit s := by unfold numberB; rw [head0_eq s h0]; simp [h2, h0, h1]
        have HF := Lib.hid hf
        clear h2 hf
        go_enter Tryz.func38, Tryz.ntmps38
        go_wp2_with (go_at_call 47; refine (all_digit _ _ hs).mono ?_; rintro e w' ⟨rfl, rfl⟩)
        go_ret
        exact ⟨ret_bool HF.out.symm, rfl⟩
    · have hf : numberB s = false := by unfold numberB; simp [h1]
      have HF := Lib.hid hf
      clear hf
      go_enter Tryz.func38, Tryz.ntmps38
      go_wp2_with fail
      go_ret
      exact ⟨ret_bool HF.out.symm, rfl⟩
  · obtain ⟨ne1, ne2⟩ := eq_of_not_pos h0
    have hf : numberB s = false := by unfold numberB; simp [h0]
    have HF := Lib.hid hf
    clear hf
    go_enter Tryz.func38, Tryz.ntmps38
    go_wp2_with fail
    go_ret
    exact ⟨ret_bool HF.out.symm, rfl⟩
def letteredB (s : ByteArray) : Bool := decide (1 < s.size) && numberB (s.extract 0 (s.size - 1)) && isLetter (s.data.toList.getD (s.size - 1) 0).toNat
theorem lettered_any (s : ByteArray) (w : World) (hs : s.size ≤ maxLen) :
    Calls Tryz.prog 37 #[.string s] w fun e w' => e = .returned (.bool (letteredB s)) ∧ w = w' := by
  have hm := hs
  unfold maxLen at hs
  by_cases h0 : 1 < s.size
  · have hx : (s.extract 0 (s.size - 1)).size ≤ maxLen := by rw [ByteArray.size_extract]; unfold maxLen; omega
    cases h1 : numberB (s.extract 0 (s.size - 1))
    · have hf : letteredB s = false := by unfold letteredB; simp [h1]
      have HF := Lib.hid hf
      clear hf
      go_enter Tryz.func37, Tryz.ntmps37
      go_wp2_with (go_at_call 38; refine (number_any _ _ hx).mono ?_; rintro e w' ⟨rfl, rfl⟩)
      go_ret
      exact ⟨ret_bool HF.out.symm, rfl⟩
    · have hg : (s.data.toList.getD (s.size - 1) 0) = s[s.size - 1] := by
        rw [List.getD_eq_getElem?_getD, List.getElem?_eq_getElem (by simp; omega)]; rfl
      have hf : letteredB s = isLetter s[s.size - 1].toNat := by unfold letteredB; rw [hg]; simp [h1, h0]
      have HF := Lib.hid hf
      clear hf hg
      go_enter Tryz.func37, Tryz.ntmps37
      go_wp2_with (first | (go_at_call 38; refine (number_any _ _ hx).mono ?_; rintro e w' ⟨rfl, rfl⟩) | (go_at_call 51; refine (letter_any _ _).mono ?_; rintro e w' ⟨rfl, rfl⟩))
      go_ret
      exact ⟨ret_bool HF.out.symm, rfl⟩
  · have hf : letteredB s = false := by unfold letteredB; simp [h0]
    have HF := Lib.hid hf
    clear hf
    go_enter Tryz.func37, Tryz.ntmps37
    go_wp2_with fail
    go_ret
    exact ⟨ret_bool HF.out.symm, rfl⟩
def isName (n : Int) : Bool := isFlat n || decide (n = 45)
theorem name1_any (n : Int) (B : Nat) (b : Bool) (w : World) (hc : w.cell? ⟨B, 0, none⟩ = some (.bool b)) (hf : w.frozen? ⟨B, 0, none⟩ = false) :
    Calls Tryz.prog 79 #[.int .u8 n, .pointer (some ⟨B, 0, none⟩)] w fun e w' => e = .returned (.bool (isName n)) ∧ w.setCell ⟨B, 0, none⟩ (.bool (b || isLetter n)) = w' := by
  cases b <;> cases h2 : isFlat n
  all_goals
    go_enter Tryz.func79, Tryz.ntmps79
    go_wp2_with (first | (go_at_call 51; refine (letter_any _ _).mono ?_; rintro e w' ⟨rfl, rfl⟩) | (go_at_call 48; refine (flat_any _ _).mono ?_; rintro e w' ⟨rfl, rfl⟩))
    go_ret
    exact ⟨ret_bool (by unfold isName; rw [h2]; first | rfl | simp), by simp⟩
def anyB (p : Int → Bool) (s : ByteArray) : Bool := s.data.toList.any (fun c => p c.toNat)
theorem any_take_succ (p : Int → Bool) (s : ByteArray) (k : Nat) (h : k < s.size) :
    (s.data.toList.take (k + 1)).any (fun c => p c.toNat) = ((s.data.toList.take k).any (fun c => p c.toNat) || p s[k].toNat) := by
  rw [List.take_succ_eq_append_getElem (by simpa using h), List.any_append]
  simp
  rfl
set_option maxHeartbeats 1000000 in
theorem all_name (s : ByteArray) (B : Nat) (w : World) (hs : s.size ≤ maxLen) (hc : w.cell? ⟨B, 0, none⟩ = some (.bool false)) (hf : w.frozen? ⟨B, 0, none⟩ = false) :
    Calls Tryz.prog 47 #[.string s, .func (.func 79) #[] #[.pointer (some ⟨B, 0, none⟩)]] w fun e w' => e = .returned (.bool (allB isName s)) ∧ Below B w w' ∧
      ∃ b, w'.cell? ⟨B, 0, none⟩ = some (.bool b) ∧ (allB isName s = true → b = anyB isLetter s) := by
  unfold maxLen at hs
  go_enter Tryz.func47, Tryz.ntmps47
  go_wp2_with fail
  go_loopw [5] (fun i wr => ∃ k : Nat, k ≤ s.size ∧ i = .int .i64 k ∧ Hid (∀ j, j < k → ∀ h : j < s.size, isName s[j].toNat = true) ∧ Below B w wr ∧ wr.frozen? ⟨B, 0, none⟩ = false ∧
     ∃ b, wr.cell? ⟨B, 0, none⟩ = some (.bool b) ∧ Hid (b = (s.data.toList.take k).any (fun c => isLetter c.toNat))) (fun i _ => s.size - (intOf i).toNat)
  case atStart => exact ⟨0, Nat.zero_le _, rfl, fun j h => by omega, Below.refl _ _, hf, false, hc, rfl⟩
  case round =>
    clear hc hf
    obtain ⟨k, hk, rfl, ha, hb, hfr, b, hcl, hbk⟩ := hrel
    by_cases hlt : k < s.size
    · cases hd : isName s[k].toNat
      all_goals go_wp2_with (go_at_call 79; refine (name1_any _ B b _ hcl hfr).mono ?_; rintro e w' ⟨rfl, rfl⟩)
      · go_ret
        have e := allB_false hlt hd
        exact ⟨ret_bool e.symm, hb.setCell (p := ⟨B, 0, none⟩) (Nat.le_refl _) _, _, World.cell?_setCell_same' _ _ _ (by rw [hcl]; rfl), fun h => by rw [e] at h; cases h⟩
      · go_roundw
        case rel => exact ⟨k + 1, by omega, by go_num, fun j hj h => by by_cases e : j = k; · subst e; exact hd
                                                                        · exact ha j (by omega) h,
                           hb.setCell (p := ⟨B, 0, none⟩) (Nat.le_refl _) _, by rw [World.frozen?_setCell]; exact hfr, _, World.cell?_setCell_same' _ _ _ (by rw [hcl]; rfl), by rw [any_take_succ _ _ _ hlt, ← hbk.out]; rfl⟩
        case measure => simp [intOf]; omega
    · go_wp2_with fail
      go_ret
      have e : allB isName s = true := allB_true fun j hj h => ha j (by omega) h
      exact ⟨ret_bool e.symm, hb, b, hcl, fun _ => by rw [hbk.out, List.take_of_length_le (by simp; omega)]; rfl⟩
def nameB (s : ByteArray) : Bool := allB isName s && anyB isLetter s
theorem name_any (s : ByteArray) (w : World) (hs : s.size ≤ maxLen) :
    Calls Tryz.prog 45 #[.string s] w fun e w' => e = .returned (.bool (nameB s)) ∧ Below w.heap.size w w' := by
  cases h : allB isName s
  all_goals
    have hn : nameB s = (allB isName s && anyB isLetter s) := rfl
    rw [h] at hn
    have HN := Lib.hid hn
    clear hn
    go_enter Tryz.func45, Tryz.ntmps45
    go_wp2_with (go_at_call 47; refine (all_name _ w.heap.size _ hs (by simp [go_sem]) (by simp [go_sem])).mono ?_; rintro e w' ⟨rfl, hb, b, hc, hbb⟩)
    go_ret
    exact ⟨ret_bool (by rw [HN.out]; simp), ((Below.refl _ w).alloc (Nat.le_refl _) _).trans hb⟩
end Go.Proofs.YtdcpmnkebhilpaaGreatDoor
