/-
  Contracts of matches of package lex, and of the closures of Classes.
-/
import Derived.Test.YtdcpmnkebhilpaaGreatDoorB
import Derived.Laws.Rows
namespace Go.Proofs.YtdcpmnkebhilpaaGreatDoor
open Go.RowKit
theorem upto_succ {P : Nat → Prop} {k : Nat} (h : ∀ j, j < k → P j) (hk : P k) : ∀ j, j < k + 1 → P j := fun j hj => by
  by_cases e : j = k
  · subst e; exact hk
  · exact h j (by omega)
def kindB (k : Bool) (n : Int) : Bool := if k then isLetter n else isDigit n
def matchesB : List UInt8 → List Bool → Bool
  | [], [] => true
  | c :: l, k :: ks => kindB k c.toNat && matchesB l ks
  | _, _ => false
def fv (k : Bool) : Value := if k then .func (.func 51) #[] #[] else .func (.func 53) #[] #[]
theorem matchesB_len : ∀ (l : List UInt8) (ks : List Bool), l.length ≠ ks.length → matchesB l ks = false
  | [], [], h => by simp at h
  | [], _ :: _, _ => rfl
  | _ :: _, [], _ => rfl
  | c :: l, k :: ks, h => by rw [matchesB, matchesB_len l ks (by simpa using h)]; simp
theorem matchesB_true : ∀ (l : List UInt8) (ks : List Bool), l.length = ks.length → (∀ j, j < ks.length → kindB (ks.getD j true) (l.getD j 0).toNat = true) → matchesB l ks = true
  | [], [], _, _ => rfl
  | [], _ :: _, h, _ => by simp at h
  | _ :: _, [], h, _ => by simp at h
  | c :: l, k :: ks, h, hj => by
    rw [matchesB, matchesB_true l ks (by simpa using h) (fun j hlt => by have := hj (j + 1) (by simp; omega); simpa using this)]
    have := hj 0 (by simp)
    simp at this
    simp [this]
theorem matchesB_false : ∀ (l : List UInt8) (ks : List Bool) (j : Nat), j < ks.length → kindB (ks.getD j true) (l.getD j 0).toNat = false → matchesB l ks = false
  | [], [], j, h, _ => by simp at h
  | [], _ :: _, _, _, _ => rfl
  | _ :: _, [], _, _, _ => rfl
  | c :: l, k :: ks, 0, h, hk => by rw [matchesB]; simp at hk; simp [hk]
  | c :: l, k :: ks, j + 1, h, hk => by rw [matchesB, matchesB_false l ks j (by simpa using h) (by simpa using hk)]; simp
set_option maxHeartbeats 1000000 in
theorem matches_any (s : ByteArray) (ks : List Bool) (B : Nat) (w : World) (_hs : s.size ≤ maxLen) (hk : ks.length ≤ 10)
    (hc : ∀ i, i < ks.length → w.cell? ⟨B, i, none⟩ = some (fv (ks.getD i true))) (cap : Nat) :
    Calls Tryz.prog 50 #[.string s, .slice (some ⟨B, 0, none⟩) ks.length cap] w fun e w' => e = .returned (.bool (matchesB s.data.toList ks)) ∧ w = w' := by
  have HC := Lib.hid hc
  clear hc
  by_cases hl : s.size = ks.length
  · have h1 : ((s.size : Int) != (ks.length : Int)) = false := by simp [hl]
    have HL := Lib.hid hl
    have hle : s.size ≤ ks.length := by omega
    have hge : ks.length ≤ s.size := by omega
    clear hl
    go_enter Tryz.func50, Tryz.ntmps50
    go_wp2_with fail
    go_loop [14] (fun i => ∃ k : Nat, k ≤ ks.length ∧ i = .int .i64 k ∧ Hid (∀ j, j < k → kindB (ks.getD j true) (s.data.toList.getD j 0).toNat = true)) (fun i => ks.length - (intOf i).toNat)
    case atStart => exact ⟨0, Nat.zero_le _, rfl, fun j h => by omega⟩
    case round =>
      obtain ⟨k, hkl, rfl, ha⟩ := hrel
      by_cases hlt : k < ks.length
      · have hg : (s.data.toList.getD k 0) = s[k] := by
          rw [List.getD_eq_getElem?_getD, List.getElem?_eq_getElem (by simp; omega)]; rfl
        have HG := Lib.hid hg
        clear hg
        have hcl := HC.out k hlt
        cases hkd : ks.getD k true
        · rw [hkd] at hcl
          have HKD := Lib.hid hkd
          clear hkd
          simp only [fv] at hcl
          cases hd : isDigit s[k].toNat
          all_goals go_wp2_with (go_at_call 53; refine (digit_any _ _).mono ?_; rintro e w' ⟨rfl, rfl⟩)
          · go_ret
            exact ⟨ret_bool (matchesB_false _ _ k hlt (by rw [HKD.out, HG.out]; exact hd)).symm, rfl⟩
          · go_round
            case rel => exact ⟨k + 1, by omega, by go_num, upto_succ (P := fun j => kindB (ks.getD j true) (s.data.toList.getD j 0).toNat = true) ha.out (by rw [HKD.out, HG.out]; exact hd)⟩
            case measure => simp [intOf]; omega
        · rw [hkd] at hcl
          have HKD := Lib.hid hkd
          clear hkd
          simp only [fv] at hcl
          cases hd : isLetter s[k].toNat
          all_goals go_wp2_with (go_at_call 51; refine (letter_any _ _).mono ?_; rintro e w' ⟨rfl, rfl⟩)
          · go_ret
            exact ⟨ret_bool (matchesB_false _ _ k hlt (by rw [HKD.out, HG.out]; exact hd)).symm, rfl⟩
          · go_round
            case rel => exact ⟨k + 1, by omega, by go_num, upto_succ (P := fun j => kindB (ks.getD j true) (s.data.toList.getD j 0).toNat = true) ha.out (by rw [HKD.out, HG.out]; exact hd)⟩
            case measure => simp [intOf]; omega
      · go_wp2_with fail
        go_ret
        exact ⟨ret_bool (matchesB_true _ _ (by simpa using HL.out) fun j hj => ha j (by omega)).symm, rfl⟩
  · have h1 : ((s.size : Int) != (ks.length : Int)) = true := by simp; omega
    have hf := matchesB_len s.data.toList ks (by simpa using hl)
    have HF := Lib.hid hf
    clear hf
    go_enter Tryz.func50, Tryz.ntmps50
    go_wp2_with fail
    go_ret
    exact ⟨ret_bool HF.out.symm, rfl⟩
theorem cells_of_block (w : World) (B : Nat) (ks : List Bool) (cs : Array Value) (T : TypeId) (h : w.heap[B]? = some (.cells cs T (0, 0))) (hc : cs.toList = ks.map fv) :
    ∀ i, i < ks.length → w.cell? ⟨B, i, none⟩ = some (fv (ks.getD i true)) := by
  intro i hi
  rw [cell_of_row w B i cs T (0, 0) h, ← Array.getElem?_toList, hc, List.getElem?_map, List.getD_eq_getElem?_getD, List.getElem?_eq_getElem hi]
  rfl
def flatB (s : ByteArray) : Bool := decide (0 < s.size) && decide (s.size ≤ 6) && allB isFlat s
theorem classes2_any (s : ByteArray) (w : World) (hs : s.size ≤ maxLen) :
    Calls Tryz.prog 46 #[.string s] w fun e w' => e = .returned (.bool (flatB s)) ∧ w = w' := by
  by_cases h0 : 0 < s.size
  · obtain ⟨ne1, ne2⟩ := ne_of_pos h0
    by_cases h1 : s.size ≤ 6
    · have hf : flatB s = allB isFlat s := by unfold flatB; simp [h0, h1]
      have HF := Lib.hid hf
      clear hf
      go_enter Tryz.func46, Tryz.ntmps46
      go_wp2_with (go_at_call 47; refine (all_flat _ _ hs).mono ?_; rintro e w' ⟨rfl, rfl⟩)
      go_ret
      exact ⟨ret_bool HF.out.symm, rfl⟩
    · have hf : flatB s = false := by unfold flatB; simp [h1]
      have HF := Lib.hid hf
      clear hf
      go_enter Tryz.func46, Tryz.ntmps46
      go_wp2_with fail
      go_ret
      exact ⟨ret_bool HF.out.symm, rfl⟩
  · obtain ⟨ne1, ne2⟩ := eq_of_not_pos h0
    have hf : flatB s = false := by unfold flatB; simp [h0]
    have HF := Lib.hid hf
    clear hf
    go_enter Tryz.func46, Tryz.ntmps46
    go_wp2_with fail
    go_ret
    exact ⟨ret_bool HF.out.symm, rfl⟩
end Go.Proofs.YtdcpmnkebhilpaaGreatDoor
