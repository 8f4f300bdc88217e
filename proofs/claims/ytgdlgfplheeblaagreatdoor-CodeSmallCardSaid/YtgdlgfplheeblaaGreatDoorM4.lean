/-
  The reference of check digits at the system Perm: Test, Check.
-/
import Derived.Test.YtgdlgfplheeblaaGreatDoorM3
namespace Go.Proofs.YtgdlgfplheeblaaGreatDoor
open Go.RowKit
set_option linter.unusedVariables false
set_option maxRecDepth 100000
theorem rd_of_ownsV {w : World} {B : Nat} {v : Value} {vs : List Nat} (h : OwnsV w B v vs) : RdNats w v vs := by
  unfold OwnsV at h
  rcases h.2 with ⟨rfl, h0⟩ | ⟨g, cap, cur, rfl, hb, hg, hn, hm, hs, ht⟩
  · exact ⟨none, 0, by rw [h0], fun h => by omega⟩
  · refine ⟨_, cap, rfl, fun _ => ⟨g, 0, rfl, ?_, fun i hi => ?_⟩⟩
    · exact (Array.getElem?_eq_some_iff.1 hg).1
    · have e1 : cur.toList[i]? = some (Value.int .i64 (vs[i] : Nat)) := by
        have e2 : (cur.toList.take (vs.length * 1))[i]? = (vs.map (fun n => Value.int .i64 (n : Nat)))[i]? := by rw [ht]
        rw [List.getElem?_take_of_lt (by omega), List.getElem?_map, List.getElem?_eq_getElem hi] at e2
        exact e2
      have e3 : cur[i]? = some (Value.int .i64 (vs[i] : Nat)) := by rw [← Array.getElem?_toList]; exact e1
      simp only [World.cell?, hg, Nat.zero_add]
      exact e3
theorem vals_snoc (s : ByteArray) (k : Nat) (hk : k < 10) : valsOf (s ++ charB k) = k :: valsOf s := by
  rw [valsOf_rev, valsOf_rev]
  have e : (s ++ charB k).data.toList = s.data.toList ++ [UInt8.ofNat (48 + k)] := by unfold charB; rw [ByteArray.data_append, Array.toList_append]
  rw [e, List.reverse_append, List.reverse_singleton, List.singleton_append, List.map_cons]
  congr 1
  rw [UInt8.toNat_ofNat']; omega
set_option maxHeartbeats 4000000 in
theorem test16_any (s : ByteArray) (w : World) (hd : digB s = true) (h1 : 2 ≤ s.size) (h2 : s.size ≤ 31) :
    Calls Tryz.prog 39 #[.int .u8 4, .slice none 0 0, .string s] w fun e w' => e = .returned (.tuple #[.bool (permB (valsOf s)), .int .i64 0]) ∧ Below w.heap.size w w' := by
  have HV := Lib.hid (fun W => values16_any s W hd h1 h2)
  have HP : Hid (∀ W v B, OwnsV W B v (valsOf s) → Calls Tryz.prog 69 #[.int .u8 4, .slice none 0 0, v] W fun e w' => e = .returned (.bool (permB (valsOf s))) ∧ W = w') := fun W v B ho => passes16_any _ _ W (rd_of_ownsV ho) (fun x hx => valsOf_lt hd x hx) (by unfold valsOf; simp; omega)
  generalize permB (valsOf s) = pb at HP
  clear hd
  go_enter Tryz.func39, Tryz.ntmps39
  go_wp2_with fail
  refine (HV.out _).mono ?_
  rintro e w1 ⟨v, rfl, ho, hb1⟩
  have HPV := Lib.hid (HP.out w1 v _ ho)
  have HB1 := Lib.hid hb1
  clear hb1 ho HP
  go_wp2_with fail
  refine (HPV.out).mono ?_
  rintro e w2 ⟨rfl, rfl⟩
  go_wp2_with fail
  go_ret2
  exact ⟨rfl, HB1.out⟩
theorem all_slice (d : Nat) (h : d < 10) : (⟨#[48, 49, 50, 51, 52, 53, 54, 55, 56, 57, 88]⟩ : ByteArray).extract d (d + 1) = charB d :=
  (by decide : ∀ d : Fin 10, (⟨#[48, 49, 50, 51, 52, 53, 54, 55, 56, 57, 88]⟩ : ByteArray).extract d.1 (d.1 + 1) = charB d.1) ⟨d, h⟩
set_option maxHeartbeats 8000000 in
theorem check16_any (s : ByteArray) (w : World) (hd : digB s = true) (h1 : 1 ≤ s.size) (h2 : s.size ≤ 30) :
    Calls Tryz.prog 38 #[.int .u8 4, .slice none 0 0, .string s] w fun e w' => e = .returned (.tuple #[.int .u8 (48 + (checkD s : Nat)), .int .i64 0]) ∧ Below w.heap.size w w' := by
  obtain ⟨c9, _, cno, _⟩ := checkV_ok (valsOf_lt hd)
  have cyes := (checkV_ok (valsOf_lt hd)).2.1
  have hcd : checkV (valsOf s) = checkD s := rfl
  rw [hcd] at c9 cno cyes
  generalize checkD s = c at c9 cno cyes ⊢
  have HR := Lib.hid (fun W => right16_any W)
  have HT : Hid (∀ k, k ≤ c → ∀ W, Calls Tryz.prog 39 #[.int .u8 4, .slice none 0 0, .string (s ++ charB k)] W fun e w' => e = .returned (.tuple #[.bool (decide (k = c)), .int .i64 0]) ∧ Below W.heap.size W w') := fun k hk W => by
    have hsz : (s ++ charB k).size = s.size + 1 := by rw [ByteArray.size_append]; rfl
    have := test16_any (s ++ charB k) W (digB_append hd (charB_dig (by omega))) (by omega) (by omega)
    rw [vals_snoc s k (by omega)] at this
    have e : permB (k :: valsOf s) = decide (k = c) := by
      by_cases h : k = c
      · rw [decide_eq_true h, h]; exact cyes
      · rw [decide_eq_false h]; exact cno k (by omega)
    rw [e] at this
    exact this
  clear hd cno cyes hcd
  go_enter Tryz.func38, Tryz.ntmps38
  go_wp2_with fail
  refine (HR.out _).mono ?_
  rintro e w1 ⟨rfl, rfl⟩
  clear HR
  go_wp2_with fail
  go_loopw [8] (fun i wr => ∃ k : Nat, k ≤ c ∧ i = .int .i64 k ∧ Below w.heap.size w wr) (fun i _ => 11 - (intOf i).toNat)
  case atStart => exact ⟨0, Nat.zero_le _, rfl, Below.refl _ _⟩
  case round =>
    obtain ⟨k, hk, rfl, hB⟩ := hrel
    have HTK := Lib.hid (HT.out k hk)
    have hx := all_slice k (by omega)
    have hcs : (charB k).size = 1 := rfl
    have hov : ¬ 9223372036854775807 < s.size + (charB k).size := by omega
    have hd1 : k < 11 := by omega
    have HB := Lib.hid hB
    clear hB HT
    by_cases hkc : k = c
    · have hdd : decide (k = c) = true := decide_eq_true hkc
      rw [hdd] at HTK
      subst hkc
      have h10 : k = 0 ∨ k = 1 ∨ k = 2 ∨ k = 3 ∨ k = 4 ∨ k = 5 ∨ k = 6 ∨ k = 7 ∨ k = 8 ∨ k = 9 := by omega
      generalize charB k = cb at HTK hx hcs hov
      clear hd1 hdd
      rcases h10 with rfl | rfl | rfl | rfl | rfl | rfl | rfl | rfl | rfl | rfl
      all_goals
        go_wp2_with fail
        refine (HTK.out _).mono ?_
        rintro e w3 ⟨rfl, hb3⟩
        have HB3 := Lib.hid (HB.out.trans (hb3.mono HB.out.size))
        clear hb3
        go_wp2_with fail
        go_ret2
        exact ⟨rfl, HB3.out⟩
    · have hdd : decide (k = c) = false := decide_eq_false hkc
      rw [hdd] at HTK
      have hk10 : k < 10 := by omega
      generalize charB k = cb at HTK hx hcs hov
      clear hdd
      go_wp2_with fail
      refine (HTK.out _).mono ?_
      rintro e w3 ⟨rfl, hb3⟩
      have HB3 := Lib.hid (HB.out.trans (hb3.mono HB.out.size))
      clear hb3
      go_wp2_with fail
      go_roundw
      case rel => exact ⟨k + 1, by omega, by go_num, HB3.out⟩
      case measure => simp [intOf]; omega
end Go.Proofs.YtgdlgfplheeblaaGreatDoor
