/-
  Contract of the closure of fold.Fold: what the byte at a place becomes.
-/
import Derived.Test.YtdcpmnkebhilpaaGreatDoorW
import Derived.Test.YtdcpmnkebhilpaaGreatDoorL
namespace Go.Proofs.YtdcpmnkebhilpaaGreatDoor
open Go.RowKit
set_option linter.unusedVariables false
def keptB (b : Int) : Bool := decide ((65 ≤ b ∧ b ≤ 90) ∨ (48 ≤ b ∧ b ≤ 57) ∨ b = 45 ∨ b = 47)
def lowB (b : Int) : Bool := decide (97 ≤ b ∧ b ≤ 122)
def byteAt (s : ByteArray) (i : Nat) : UInt8 := s.data.toList.getD i 0
def foldAt (s : ByteArray) (i : Nat) : List UInt8 × Nat :=
  if keptB (byteAt s i).toNat then ([byteAt s i], 1) else if lowB (byteAt s i).toNat then ([byteAt s i - 32], 1)
  else if i + 1 < s.size ∧ lettersP (byteAt s i).toNat (byteAt s (i + 1)).toNat ≠ [] then (lettersP (byteAt s i).toNat (byteAt s (i + 1)).toNat, 2) else ([], 1)
theorem byteAt_eq {s : ByteArray} {k : Nat} (h : k < s.size) : byteAt s k = s[k] := by
  unfold byteAt; rw [List.getD_eq_getElem?_getD, List.getElem?_eq_getElem (by simpa using h)]; rfl
theorem extract_one {s : ByteArray} {k : Nat} (h : k < s.size) : (s.extract k (k + 1)).data.toList = [s[k]] := by
  rw [ByteArray.data_extract, Array.toList_extract]
  rw [List.extract_eq_take_drop]
  have : s.data.toList.drop k = s[k] :: s.data.toList.drop (k + 1) := by
    rw [List.drop_eq_getElem_cons (by simpa using h)]; rfl
  rw [this]
  simp
theorem enc_low0 : ∀ c : Fin 256, 97 ≤ c.val → c.val ≤ 122 → (Utf8.encode ((c.val : Int) - 97 + 65)).data.toList = [UInt8.ofNat c.val - 32] := by decide +kernel
theorem enc_low (c : UInt8) (h1 : 97 ≤ c.toNat) (h2 : c.toNat ≤ 122) : (Utf8.encode ((c.toNat : Int) - 97 + 65)).data.toList = [c - 32] := by
  have := enc_low0 ⟨c.toNat, c.toNat_lt⟩ h1 h2
  simpa using this
def Becomes (s : ByteArray) (i : Nat) (w : World) (e : Ending) (w' : World) : Prop :=
  ∃ r : ByteArray, r.data.toList = (foldAt s i).1 ∧ e = .returned (.tuple #[.string r, .int .i64 (foldAt s i).2]) ∧ w = w'
set_option maxHeartbeats 2000000 in
theorem fold1_any (s : ByteArray) (i B : Nat) (w : World) (hi : i < s.size) (hs : s.size ≤ 60000) (hc : w.cell? ⟨B, 0, none⟩ = some (.string s)) :
    Calls Tryz.prog 89 #[.int .i64 i, .pointer (some ⟨B, 0, none⟩)] w (Becomes s i w) := by
  have hb := s[i].toNat_lt
  by_cases h1 : keptB s[i].toNat = true
  · have hf : foldAt s i = ([s[i]], 1) := by unfold foldAt; rw [byteAt_eq hi, if_pos h1]
    have HF := Lib.hid hf
    clear hf
    have fin : Becomes s i w (.returned (.tuple #[.string (s.extract i (i + 1)), .int .i64 1])) w := ⟨_, by rw [HF.out]; exact extract_one hi, by rw [HF.out]; rfl, rfl⟩
    have FIN := Lib.hid fin
    clear fin
    unfold keptB at h1
    simp only [decide_eq_true_eq] at h1
    rcases h1 with ⟨a1, a2⟩ | ⟨a1, a2⟩ | h45 | h47
    · go_enter Tryz.func89, Tryz.ntmps89
      go_wp2_with fail
      go_ret2
      exact FIN.out
    · go_enter Tryz.func89, Tryz.ntmps89
      go_wp2_with fail
      go_ret2
      exact FIN.out
    · have a1 : (s[i].toNat : Int) < 48 := by omega
      have a2 : ((s[i].toNat : Int) == 45) = true := by simpa using h45
      clear h45
      go_enter Tryz.func89, Tryz.ntmps89
      go_wp2_with fail
      go_ret2
      exact FIN.out
    · have a1 : (s[i].toNat : Int) < 48 := by omega
      have a2 : ((s[i].toNat : Int) == 45) = false := by rw [beq_eq_false_iff_ne]; omega
      have a3 : ((s[i].toNat : Int) == 47) = true := by simpa using h47
      clear h47
      go_enter Tryz.func89, Tryz.ntmps89
      go_wp2_with fail
      go_ret2
      exact FIN.out
  · have h1f : keptB s[i].toNat = false := by simpa using h1
    unfold keptB at h1
    simp only [decide_eq_true_eq] at h1
    have n45 : ((s[i].toNat : Int) == 45) = false := by rw [beq_eq_false_iff_ne]; omega
    have n47 : ((s[i].toNat : Int) == 47) = false := by rw [beq_eq_false_iff_ne]; omega
    by_cases h2 : lowB s[i].toNat = true
    · have hf : foldAt s i = ([s[i] - 32], 1) := by unfold foldAt; rw [byteAt_eq hi, if_neg (by rw [h1f]; simp), if_pos h2]
      have HF := Lib.hid hf
      clear hf h1f
      unfold lowB at h2
      simp only [decide_eq_true_eq] at h2
      obtain ⟨a1, a2⟩ := h2
      have fin : Becomes s i w (.returned (.tuple #[.string (Utf8.encode ((s[i].toNat : Int) - 97 + 65)), .int .i64 1])) w :=
        ⟨_, by rw [HF.out]; exact enc_low _ (by omega) (by omega), by rw [HF.out]; rfl, rfl⟩
      have FIN := Lib.hid fin
      clear fin h1
      go_enter Tryz.func89, Tryz.ntmps89
      go_wp2_with fail
      go_ret2
      exact FIN.out
    · have h2f : lowB s[i].toNat = false := by simpa using h2
      unfold lowB at h2
      simp only [decide_eq_true_eq] at h2
      by_cases h3 : i + 1 < s.size
      · have hb2 := s[i + 1].toNat_lt
        by_cases h4 : lettersP s[i].toNat s[i + 1].toNat = []
        · have hf : foldAt s i = ([], 1) := by
            unfold foldAt; rw [byteAt_eq hi, byteAt_eq h3, if_neg (by rw [h1f]; simp), if_neg (by rw [h2f]; simp), if_neg (by rw [h4]; simp)]
          have HF := Lib.hid hf
          have H4 := Lib.hid h4
          clear hf h1f h2f h4
          have fin : Becomes s i w (.returned (.tuple #[.string ⟨#[]⟩, .int .i64 1])) w := ⟨⟨#[]⟩, by rw [HF.out], by rw [HF.out]; rfl, rfl⟩
          have FIN := Lib.hid fin
          clear fin
          go_enter Tryz.func89, Tryz.ntmps89
          go_wp2_with (go_at_call 90; refine (letters_any _ _ _ (by omega) (by omega) (by omega) (by omega)).mono ?_; rintro e w' ⟨rfl, rfl⟩; rw [H4.out])
          all_goals (go_ret2; exact FIN.out)
        · have hf : foldAt s i = (lettersP s[i].toNat s[i + 1].toNat, 2) := by
            unfold foldAt; rw [byteAt_eq hi, byteAt_eq h3, if_neg (by rw [h1f]; simp), if_neg (by rw [h2f]; simp), if_pos ⟨h3, h4⟩]
          have HF := Lib.hid hf
          clear hf h1f h2f
          generalize hL : lettersP s[i].toNat s[i + 1].toNat = L at HF h4
          have HL := Lib.hid hL
          clear hL
          have h5 : L.isEmpty = false := by cases L <;> simp_all
          have fin : Becomes s i w (.returned (.tuple #[.string ⟨L.toArray⟩, .int .i64 2])) w := ⟨⟨L.toArray⟩, by rw [HF.out], by rw [HF.out]; rfl, rfl⟩
          have FIN := Lib.hid fin
          clear fin
          go_enter Tryz.func89, Tryz.ntmps89
          go_wp2_with (go_at_call 90; refine (letters_any _ _ _ (by omega) (by omega) (by omega) (by omega)).mono ?_; rintro e w' ⟨rfl, rfl⟩; rw [HL.out])
          all_goals (go_ret2; exact FIN.out)
      · have hf : foldAt s i = ([], 1) := by
          unfold foldAt; rw [byteAt_eq hi, if_neg (by rw [h1f]; simp), if_neg (by rw [h2f]; simp), if_neg (fun h => h3 h.1)]
        have HF := Lib.hid hf
        clear hf h1f h2f
        have fin : Becomes s i w (.returned (.tuple #[.string ⟨#[]⟩, .int .i64 1])) w := ⟨⟨#[]⟩, by rw [HF.out], by rw [HF.out]; rfl, rfl⟩
        have FIN := Lib.hid fin
        clear fin
        go_enter Tryz.func89, Tryz.ntmps89
        go_wp2_with fail
        all_goals (go_ret2; exact FIN.out)
end Go.Proofs.YtdcpmnkebhilpaaGreatDoor
