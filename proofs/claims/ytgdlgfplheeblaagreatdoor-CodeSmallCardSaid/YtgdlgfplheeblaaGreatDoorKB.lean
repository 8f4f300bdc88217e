/-
  Package code: Encode at arguments out of range, and at texts that are no codes.
-/
import Derived.Test.YtgdlgfplheeblaaGreatDoorKA
namespace Go.Proofs.YtgdlgfplheeblaaGreatDoor
open Go.RowKit
set_option linter.unusedVariables false
set_option maxRecDepth 100000
/-- Is a text a code of a country, as it stands? -/
def validB (c : Int) (s : ByteArray) : Bool := (decide (c = 1) || decide (c = 2) || decide (c = 3)) && matchesB s.data.toList (patOf c.toNat)
theorem enc_range (c p : Int) (s : ByteArray) (w : World) (h : c < 1 ∨ 3 < c ∨ p < 1 ∨ 999999 < p) :
    Calls Tryz.prog 12 #[.int .u8 c, .string s, .int .i64 p] w fun e w' => e = .returned (.tuple #[.string ⟨#[]⟩, .int .i64 2]) ∧ Below w.heap.size w w' := by
  by_cases h1 : c < 1
  · have d1 : decide (c < 1) = true := decide_eq_true h1
    go_enter Tryz.func12, Tryz.ntmps12
    go_wp2
    go_ret2
    exact ⟨rfl, Below.refl _ _⟩
  · have d1 : decide (c < 1) = false := decide_eq_false h1
    by_cases h2 : 3 < c
    · have d2 : decide (3 < c) = true := decide_eq_true h2
      go_enter Tryz.func12, Tryz.ntmps12
      go_wp2
      go_ret2
      exact ⟨rfl, Below.refl _ _⟩
    · have d2 : decide (3 < c) = false := decide_eq_false h2
      by_cases h3 : p < 1
      · have d3 : decide (p < 1) = true := decide_eq_true h3
        go_enter Tryz.func12, Tryz.ntmps12
        go_wp2
        go_ret2
        exact ⟨rfl, Below.refl _ _⟩
      · have d3 : decide (p < 1) = false := decide_eq_false h3
        have h4 : 999999 < p := by omega
        have d4 : decide (999999 < p) = true := decide_eq_true h4
        go_enter Tryz.func12, Tryz.ntmps12
        go_wp2
        go_ret2
        exact ⟨rfl, Below.refl _ _⟩
theorem valid_code {c : Int} {s : ByteArray} (hc : c = 1 ∨ c = 2 ∨ c = 3) (h : (codeR c s).2 = true) (he : (codeR c s).1 = s.data.toList) : validB c s = true := by
  rcases code_cases c s with e | ⟨j, rfl, hj, e, hm⟩
  · rw [e] at h; cases h
  · rw [e] at he
    have he' : s.data.toList.filter (fun c => decide (c ≠ 32)) = s.data.toList := he
    rw [he'] at hm
    unfold validB
    rw [Int.toNat_natCast, hm]
    rcases hj with rfl | rfl | rfl <;> rfl
theorem code_valid {c : Int} {s : ByteArray} (h : validB c s = true) : codeR c s = (s.data.toList, true) := by
  unfold validB at h
  rw [Bool.and_eq_true] at h
  obtain ⟨hc, hm⟩ := h
  have hnb : (32 : UInt8) ∉ s.data.toList := matches_no_blank hm
  have key : ∀ j : Nat, (j = 1 ∨ j = 2 ∨ j = 3) → c = j → codeR c s = (s.data.toList, true) := fun j hj hcj => by
    subst hcj
    rw [code_simple hj (.inr hnb)]
    rw [Int.toNat_natCast] at hm
    rw [if_pos hm]
  simp only [Bool.or_eq_true, decide_eq_true_eq] at hc
  rcases hc with (hc | hc) | hc
  · exact key 1 (.inl rfl) hc
  · exact key 2 (.inr (.inl rfl)) hc
  · exact key 3 (.inr (.inr rfl)) hc
theorem ba_inj2 {a b : ByteArray} (h : a.data.toList = b.data.toList) : a = b := by
  apply ByteArray.ext
  exact Array.toList_inj.1 h
theorem ba_eq2 (a b : ByteArray) : (a.toList == b.toList) = decide (a = b) := by
  rw [ByteArray.toList_eq, ByteArray.toList_eq, Bool.eq_iff_iff]
  simp only [beq_iff_eq, decide_eq_true_eq]
  exact ⟨fun h => ba_inj2 h, fun h => by rw [h]⟩
theorem enc_nocode (c p : Int) (s : ByteArray) (w : World) (hc : c = 1 ∨ c = 2 ∨ c = 3) (hp : 1 ≤ p ∧ p ≤ 999999) (hs : s.size ≤ maxLen) (hv : validB c s = false) :
    Calls Tryz.prog 12 #[.int .u8 c, .string s, .int .i64 p] w fun e w' => e = .returned (.tuple #[.string ⟨#[]⟩, .int .i64 170]) ∧ Below w.heap.size w w' := by
  have d1 : decide (c < 1) = false := decide_eq_false (by omega)
  have d2 : decide (3 < c) = false := decide_eq_false (by omega)
  have d3 : decide (p < 1) = false := decide_eq_false (by omega)
  have d4 : decide (999999 < p) = false := decide_eq_false (by omega)
  have HC := Lib.hid (fun W => code_any c s W hs)
  have HV := Lib.hid (fun h he => valid_code (c := c) (s := s) hc h he)
  clear hc hp
  go_enter Tryz.func12, Tryz.ntmps12
  go_wp2_with fail
  refine (HC.out _).mono ?_
  rintro e w1 ⟨t, ht, rfl, hb⟩
  have HT := Lib.hid ht
  clear ht
  cases hr : (codeR c s).2
  · clear HV
    go_wp2_with fail
    go_ret2
    exact ⟨rfl, hb⟩
  · have hne : t ≠ s := fun h => by
      have h1 := HT.out
      rw [h] at h1
      have := HV.out hr h1.symm
      rw [hv] at this
      cases this
    have hbe := ba_eq2 t s
    rw [decide_eq_false hne] at hbe
    clear HV hne
    go_wp2_with fail
    go_ret2
    exact ⟨rfl, hb⟩
end Go.Proofs.YtgdlgfplheeblaaGreatDoor
