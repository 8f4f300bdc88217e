/-
  Contract of lex.Number.
-/
import Derived.Test.YtdcpmnkebhilpaaGreatDoorB
import Derived.RegionTactic
import Derived.ChangeAlike
namespace Go.Proofs.YtdcpmnkebhilpaaGreatDoor
open Go.RowKit
set_option linter.unusedVariables false
def valOf (l : List UInt8) : Int := l.foldl (fun n c => n * 10 + ((c.toNat : Int) - 48)) 0
def numR (s : ByteArray) : Int × List UInt8 × Bool :=
  if letteredB s then (valOf (s.data.toList.take (s.size - 1)), [s.data.toList.getD (s.size - 1) 0], true) else if numberB s then (valOf s.data.toList, [], true) else (0, [], false)
theorem valOf_succ (s : ByteArray) (k : Nat) (h : k < s.size) : valOf (s.data.toList.take (k + 1)) = valOf (s.data.toList.take k) * 10 + ((s[k].toNat : Int) - 48) := by
  unfold valOf
  rw [List.take_succ_eq_append_getElem (by simpa using h), List.foldl_append]
  rfl
theorem numberB_parts {s : ByteArray} (h : numberB s = true) : 0 < s.size ∧ s.size ≤ 6 ∧ ∀ k (hk : k < s.size), 48 ≤ (s[k].toNat : Int) ∧ (s[k].toNat : Int) ≤ 57 := by
  unfold numberB at h
  simp only [Bool.and_eq_true, decide_eq_true_eq] at h
  refine ⟨h.1.1.1, h.1.1.2, fun k hk => ?_⟩
  have := List.all_eq_true.1 h.2 s[k] (Array.mem_toList_iff.2 (Array.getElem_mem (xs := s.data) hk))
  unfold isDigit at this
  simpa using this
theorem valOf_bd {s : ByteArray} (h : numberB s = true) : ∀ k, k ≤ s.size → 0 ≤ valOf (s.data.toList.take k) ∧ valOf (s.data.toList.take k) < 10 ^ k
  | 0, _ => by simp [valOf]
  | k + 1, hk => by
    have ih := valOf_bd h k (by omega)
    have hd := (numberB_parts h).2.2 k (by omega)
    rw [valOf_succ s k (by omega)]
    rw [Int.pow_succ]
    omega
theorem valOf_le {s : ByteArray} (h : numberB s = true) (k : Nat) (hk : k ≤ s.size) : 0 ≤ valOf (s.data.toList.take k) ∧ valOf (s.data.toList.take k) ≤ 1000000 := by
  have h1 := valOf_bd h k hk
  have h2 : (10 : Int) ^ k ≤ 10 ^ 6 := by
    have := (numberB_parts h).2.1
    exact_mod_cast Nat.pow_le_pow_right (by decide : 0 < 10) (by omega : k ≤ 6)
  omega
def NumPost (s : ByteArray) (w : World) (e : Ending) (w' : World) : Prop :=
  ∃ t : ByteArray, t.data.toList = (numR s).2.1 ∧ e = .returned (.tuple #[.int .i64 (numR s).1, .string t, .bool (numR s).2.2]) ∧ Below w.heap.size w w'
set_option maxHeartbeats 2000000 in
theorem number3_any (s : ByteArray) (w : World) (hs : s.size ≤ maxLen) : Calls Tryz.prog 17 #[.string s] w (NumPost s w) := by
  have hm := hs
  unfold maxLen at hs
  cases hl : letteredB s
  · cases hn : numberB s
    · have hR : numR s = (0, [], false) := by unfold numR; rw [hl, hn]; rfl
      have FIN : Hid (NumPost s w (.returned (.tuple #[.int .i64 0, .string ⟨#[]⟩, .bool false])) w) := ⟨⟨#[]⟩, by rw [hR], by rw [hR], Below.refl _ _⟩
      clear hR
      go_enter Tryz.func17, Tryz.ntmps17
      go_wp2_with (first | (go_at_call 37; refine (lettered_any _ _ hm).mono ?_; rintro e w' ⟨rfl, rfl⟩) | (go_at_call 38; refine (number_any _ _ hm).mono ?_; rintro e w' ⟨rfl, rfl⟩))
      go_ret3
      exact FIN.out
    · have hR : numR s = (valOf s.data.toList, [], true) := by unfold numR; rw [hl, hn]; rfl
      have FIN : Hid (NumPost s w (.returned (.tuple #[.int .i64 (valOf s.data.toList), .string ⟨#[]⟩, .bool true])) w) := ⟨⟨#[]⟩, by rw [hR], by rw [hR], Below.refl _ _⟩
      clear hR
      go_enter Tryz.func17, Tryz.ntmps17
      go_wp2_with (first | (go_at_call 37; refine (lettered_any _ _ hm).mono ?_; rintro e w' ⟨rfl, rfl⟩) | (go_at_call 38; refine (number_any _ _ hm).mono ?_; rintro e w' ⟨rfl, rfl⟩))
      have HN := Lib.hid hn
      clear hn hl
      go_loop [7, 8] (fun v i => ∃ k : Nat, k ≤ s.size ∧ i = .int .i64 k ∧ v = .int .i64 (valOf (s.data.toList.take k))) (fun _ i => s.size - (intOf i).toNat)
      case atStart => exact ⟨0, Nat.zero_le _, rfl, rfl⟩
      case round =>
        obtain ⟨k, hk, rfl, rfl⟩ := hrel
        have hv := valOf_le HN.out k hk
        by_cases hlt : k < s.size
        · have hd := (numberB_parts HN.out).2.2 k hlt
          have hx := valOf_succ s k hlt
          have HX := Lib.hid hx
          clear hx
          generalize valOf (s.data.toList.take k) = n at hv HX ⊢
          go_wp2_with fail
          go_round
          case rel => exact ⟨k + 1, by omega, by go_num, by rw [HX.out]⟩
          case measure => simp [intOf]; omega
        · go_wp2_with fail
          go_ret3
          have e : s.data.toList.take k = s.data.toList := List.take_of_length_le (by simp; omega)
          have := FIN.out
          rw [← e] at this
          exact this
  · have hp : 1 < s.size ∧ numberB (s.extract 0 (s.size - 1)) = true := by
      unfold letteredB at hl
      simp only [Bool.and_eq_true, decide_eq_true_eq] at hl
      exact ⟨hl.1.1, hl.1.2⟩
    obtain ⟨h1, hn⟩ := hp
    have hR : numR s = (valOf (s.data.toList.take (s.size - 1)), [s.data.toList.getD (s.size - 1) 0], true) := by unfold numR; rw [hl]; rfl
    have e1 : (s.extract 0 (s.size - 1)).data.toList = s.data.toList.take (s.size - 1) := by rw [ByteArray.data_extract, Array.toList_extract, List.extract_eq_take_drop]; simp
    have e2 : (s.extract (s.size - 1) s.size).data.toList = [s.data.toList.getD (s.size - 1) 0] := by
      rw [ByteArray.data_extract, Array.toList_extract, List.extract_eq_take_drop]
      have : s.data.toList.drop (s.size - 1) = [s.data.toList.getD (s.size - 1) 0] := by
        rw [List.drop_eq_getElem_cons (by simp; omega), List.drop_of_length_le (by simp; omega), List.getD_eq_getElem?_getD, List.getElem?_eq_getElem (by simp; omega)]
        rfl
      rw [this]
      apply List.take_of_length_le
      simp; omega
    have hx : (s.extract 0 (s.size - 1)).size ≤ maxLen := by rw [ByteArray.size_extract]; unfold maxLen; omega
    have FIN : Hid (∀ w', Below w.heap.size w w' → NumPost s w (.returned (.tuple #[.int .i64 (valOf (s.extract 0 (s.size - 1)).data.toList), .string (s.extract (s.size - 1) s.size), .bool true])) w') :=
      fun w' hb => ⟨s.extract (s.size - 1) s.size, by rw [e2, hR], by rw [e1, hR], hb⟩
    clear hR e1 e2
    go_enter Tryz.func17, Tryz.ntmps17
    go_wp2_with (first | (go_at_call 37; refine (lettered_any _ _ hm).mono ?_; rintro e w' ⟨rfl, rfl⟩))
    go_region
    go_wp2_with (first | (go_at_call 38; refine (number_any _ _ hx).mono ?_; rintro e w' ⟨rfl, rfl⟩))
    have HN := Lib.hid hn
    clear hn hl
    generalize s.extract 0 (s.size - 1) = t at FIN HN hx ⊢
    generalize s.extract (s.size - 1) s.size = mk at FIN ⊢
    have hxm : t.size ≤ 9223372036854775807 := by unfold maxLen at hx; omega
    go_loop [7, 8] (fun v i => ∃ k : Nat, k ≤ t.size ∧ i = .int .i64 k ∧ v = .int .i64 (valOf (t.data.toList.take k))) (fun _ i => t.size - (intOf i).toNat)
    case atStart => exact ⟨0, Nat.zero_le _, rfl, rfl⟩
    case round =>
      obtain ⟨k, hk, rfl, rfl⟩ := hrel
      have hv := valOf_le HN.out k hk
      by_cases hlt : k < t.size
      · have hd := (numberB_parts HN.out).2.2 k hlt
        have hx := valOf_succ t k hlt
        have HX := Lib.hid hx
        clear hx
        generalize valOf (t.data.toList.take k) = n at hv HX ⊢
        go_wp2_with fail
        go_round
        case rel => exact ⟨k + 1, by omega, by go_num, by rw [HX.out]⟩
        case measure => simp [intOf]; omega
      · go_wp2_with fail
        go_ret3
        have e : t.data.toList.take k = t.data.toList := List.take_of_length_le (by simp; omega)
        have := FIN.out _ (Below.refl w.heap.size w).drew
        rw [← e] at this
        exact this
end Go.Proofs.YtdcpmnkebhilpaaGreatDoor
