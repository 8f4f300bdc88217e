/-
  Contracts of package digit at the system Perm: payloads, and the values of a text.
-/
import Derived.Test.YtgdlgfplheeblaaGreatDoorK3
namespace Go.Proofs.YtgdlgfplheeblaaGreatDoor
open Go.RowKit
set_option linter.unusedVariables false
set_option maxRecDepth 100000
/-- Bytes of a text that is laid as a slice of bytes. -/
theorem conv_bytes (W : World) (t : ByteArray) : ∃ (cap : Nat) (C : Array Value), t.size ≤ cap ∧
    Sem.run Tryz.prog (convert 9 27 (.string t)) W = .ok (.slice (some ⟨W.heap.size, 0, none⟩) t.size cap) (W.drew.alloc (.cells C 5 (C.size, C.size + 1))) ∧
    ∀ j (h : j < t.size), (W.alloc (.cells C 5 (C.size, C.size + 1))).cell? ⟨W.heap.size, j, none⟩ = some (.int .u8 (t[j].toNat : Int)) := by
  have hcap := grownCap_ge W t.size 0 5
  have hconv := run_bytes_of_string (P := Tryz.prog) W 9 27 5 t Tryz.underlying9 Tryz.underlying27 Tryz.underlying5
  generalize grownCap W t.size 0 5 = cap at hcap hconv
  have hC : ∀ j (h : j < t.size), (bytesRow t cap)[j]? = some (.int .u8 (t[j].toNat : Int)) := fun j h => by
    unfold bytesRow
    rw [Array.getElem?_append_left (by simpa using h), Array.getElem?_map, Array.getElem?_eq_getElem h]
    rfl
  generalize bytesRow t cap = C at hconv hC
  have hblk : (W.alloc (.cells C 5 (C.size, C.size + 1))).heap[W.heap.size]? = some (.cells C 5 (C.size, C.size + 1)) := (MapKept.heap_alloc W _).1
  exact ⟨cap, C, hcap, hconv, fun j h => by simp only [World.cell?, hblk]; exact hC j h⟩
theorem isDigit_true {n : Int} (h : 48 ≤ n ∧ n ≤ 57) : isDigit n = true := by unfold isDigit; simp; omega
theorem isDigit_false {n : Int} (h : ¬ (48 ≤ n ∧ n ≤ 57)) : isDigit n = false := by unfold isDigit; simp; omega
def digB (s : ByteArray) : Bool := allB isDigit s
set_option maxHeartbeats 1000000 in
theorem dPayload_any (s : ByteArray) (w : World) (hs : s.size ≤ maxLen) :
    Calls Tryz.prog 95 #[.string s] w fun e w' => e = .returned (.bool (digB s && !s.toList.isEmpty)) ∧ Below w.heap.size w w' := by
  unfold maxLen at hs
  obtain ⟨cap, C, hcap, hconv, hcell⟩ := conv_bytes w s
  have HC := Lib.hid hcell
  clear hcell
  go_enter Tryz.func95, Tryz.ntmps95
  go_wp2_with fail
  go_loop [8] (fun i => ∃ k : Nat, k ≤ s.size ∧ i = .int .i64 k ∧ Hid (∀ j, j < k → ∀ h : j < s.size, isDigit s[j].toNat = true)) (fun i => s.size - (intOf i).toNat)
  case atStart => exact ⟨0, Nat.zero_le _, rfl, fun j h => by omega⟩
  case round =>
    obtain ⟨k, hk, rfl, ha⟩ := hrel
    by_cases hlt : k < s.size
    · have c := HC.out k hlt
      have hn : Hid (isDigit s[k].toNat = true → ∀ j, j < k + 1 → ∀ h : j < s.size, isDigit s[j].toNat = true) := fun h1 j hj h => by
        by_cases e : j = k
        · subst e; exact h1
        · exact ha j (by omega) h
      have hf : Hid (isDigit s[k].toNat = false → digB s = false) := fun h1 => allB_false hlt h1
      generalize (s[k].toNat : Int) = n at c hn hf
      go_wp2_with fail
      all_goals first
        | (go_ret; exact ⟨ret_bool (by rw [hf.out (isDigit_false (by omega))]; rfl), ((Below.refl _ w).drew).alloc (Nat.le_refl _) _⟩)
        | (go_round
           case rel => exact ⟨k + 1, by omega, by go_num, hn.out (isDigit_true (by omega))⟩
           case measure => simp [intOf]; omega)
    · have HE : Hid (digB s = true) := allB_true fun j hj h => ha j (by omega) h
      go_wp2_with fail
      go_ret
      exact ⟨ret_bool (by rw [HE.out]; simp), ((Below.refl _ w).drew).alloc (Nat.le_refl _) _⟩
set_option maxHeartbeats 1000000 in
theorem cPayload_any (s : ByteArray) (w : World) (hs : s.size ≤ maxLen) :
    Calls Tryz.prog 27 #[.string s] w fun e w' => e = .returned (.bool (decide (s.size = 17) && digB s)) ∧ Below w.heap.size w w' := by
  unfold maxLen at hs
  by_cases h17 : s.size = 17
  · have hb17 : ((s.size : Int) != 17) = false := by simp [h17]
    have hd : decide (s.size = 17) = true := decide_eq_true h17
    rw [hd, Bool.true_and]
    have hle : s.size ≤ 17 := by omega
    clear h17 hd
    obtain ⟨cap, C, hcap, hconv, hcell⟩ := conv_bytes w s
    have HC := Lib.hid hcell
    clear hcell
    go_enter Tryz.func27, Tryz.ntmps27
    go_wp2_with fail
    go_loop [11] (fun i => ∃ k : Nat, k ≤ s.size ∧ i = .int .i64 k ∧ Hid (∀ j, j < k → ∀ h : j < s.size, isDigit s[j].toNat = true)) (fun i => s.size - (intOf i).toNat)
    case atStart => exact ⟨0, Nat.zero_le _, rfl, fun j h => by omega⟩
    case round =>
      obtain ⟨k, hk, rfl, ha⟩ := hrel
      by_cases hlt : k < s.size
      · have c := HC.out k hlt
        have hn : Hid (isDigit s[k].toNat = true → ∀ j, j < k + 1 → ∀ h : j < s.size, isDigit s[j].toNat = true) := fun h1 j hj h => by
          by_cases e : j = k
          · subst e; exact h1
          · exact ha j (by omega) h
        have hf : Hid (isDigit s[k].toNat = false → digB s = false) := fun h1 => allB_false hlt h1
        generalize (s[k].toNat : Int) = n at c hn hf
        go_wp2_with fail
        all_goals first
          | (go_ret; exact ⟨ret_bool (by rw [hf.out (isDigit_false (by omega))]), ((Below.refl _ w).drew).alloc (Nat.le_refl _) _⟩)
          | (go_round
             case rel => exact ⟨k + 1, by omega, by go_num, hn.out (isDigit_true (by omega))⟩
             case measure => simp [intOf]; omega)
      · have HE : Hid (digB s = true) := allB_true fun j hj h => ha j (by omega) h
        go_wp2_with fail
        go_ret
        exact ⟨ret_bool HE.out.symm, ((Below.refl _ w).drew).alloc (Nat.le_refl _) _⟩
  · have hb17 : ((s.size : Int) != 17) = true := by simp; omega
    have hd : decide (s.size = 17) = false := decide_eq_false h17
    rw [hd, Bool.false_and]
    clear h17 hd
    go_enter Tryz.func27, Tryz.ntmps27
    go_wp2_with fail
    go_ret
    exact ⟨rfl, Below.refl _ _⟩
theorem right_any (w : World) : Calls Tryz.prog 51 #[sysA] w fun e w' => e = .returned (.bool true) ∧ Below w.heap.size w w' := by
  unfold sysA
  go_enter Tryz.func51, Tryz.ntmps51
  go_wp2
  go_ret
  exact ⟨rfl, ((Below.refl _ w).alloc (Nat.le_refl _) _).alloc (by simp) _⟩
theorem most_any (w : World) : Calls Tryz.prog 100 #[sysA] w fun e w' => e = .returned (.int .i64 9) ∧ Below w.heap.size w w' := by
  unfold sysA
  go_enter Tryz.func100, Tryz.ntmps100
  go_wp2
  go_ret
  exact ⟨rfl, (Below.refl _ w).alloc (Nat.le_refl _) _⟩
theorem character_any (v : Nat) (w : World) (hv : v < 10) : Calls Tryz.prog 97 #[.int .i64 (v : Nat)] w fun e w' => e = .returned (.int .u8 (48 + (v : Int))) ∧ w = w' := by
  have h10 : ((v : Int) == 10) = false := beq_eq_false_iff_ne.2 (by omega)
  have h0 : (0 : Int) ≤ (v : Int) := by omega
  have h9 : (v : Int) ≤ 9 := by omega
  go_enter Tryz.func97, Tryz.ntmps97
  go_wp2
  go_ret
  exact ⟨rfl, rfl⟩
end Go.Proofs.YtgdlgfplheeblaaGreatDoor
