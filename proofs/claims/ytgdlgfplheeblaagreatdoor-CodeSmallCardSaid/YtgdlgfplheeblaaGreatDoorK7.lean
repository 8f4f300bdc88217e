/-
  Contracts of package digit at the system Perm: Check, Append, Test at texts of digits.
-/
import Derived.Test.YtgdlgfplheeblaaGreatDoorK6
import Derived.Deep.RegionWith
namespace Go.Proofs.YtgdlgfplheeblaaGreatDoor
open Go.RowKit
set_option linter.unusedVariables false
set_option maxRecDepth 100000
theorem digB_iff {s : ByteArray} : digB s = true ↔ ∀ c ∈ s.data.toList, 48 ≤ c.toNat ∧ c.toNat ≤ 57 := by
  unfold digB allB isDigit
  rw [List.all_eq_true]
  constructor
  · intro h c hc
    have := h c hc
    simp at this
    omega
  · intro h c hc
    have := h c hc
    simp
    omega
theorem digB_append {s t : ByteArray} (hs : digB s = true) (ht : digB t = true) : digB (s ++ t) = true := by
  rw [digB_iff] at *
  intro c hc
  rw [ByteArray.data_append, Array.toList_append, List.mem_append] at hc
  rcases hc with hc | hc
  · exact hs c hc
  · exact ht c hc
theorem valAt_lt {s : ByteArray} (h : digB s = true) (q : Nat) : valAt s q < 10 := by
  unfold valAt
  rw [List.getD_eq_getElem?_getD]
  cases he : s.data.toList[s.size - 1 - q]? with
  | none => decide
  | some c =>
    have := digB_iff.1 h c (List.mem_of_getElem? he)
    simp
    omega
theorem valAt_snoc (s : ByteArray) (c : UInt8) (q : Nat) (h : q < s.size) : valAt (s ++ ⟨#[c]⟩) (q + 1) = valAt s q := by
  unfold valAt
  have e1 : (s ++ ⟨#[c]⟩ : ByteArray).data.toList = s.data.toList ++ [c] := by rw [ByteArray.data_append, Array.toList_append]
  have e2 : (s ++ ⟨#[c]⟩ : ByteArray).size = s.size + 1 := by rw [ByteArray.size_append]; rfl
  rw [e1, e2, show s.size + 1 - 1 - (q + 1) = s.size - 1 - q by omega, List.getD_eq_getElem?_getD, List.getD_eq_getElem?_getD, List.getElem?_append_left (by have : s.data.toList.length = s.size := rfl; omega)]
theorem rest_snoc (s : ByteArray) (c : UInt8) : restV (s.size + 1) (valAt (s ++ ⟨#[c]⟩)) = valsOf s := by
  unfold restV valsOf
  rw [Nat.add_sub_cancel]
  exact List.map_congr_left (fun q hq => valAt_snoc s c q (List.mem_range.1 hq))
def checkD (s : ByteArray) : Nat := checkV (valsOf s)
theorem valsOf_lt {s : ByteArray} (h : digB s = true) : ∀ v ∈ valsOf s, v < 10 := fun v hv => by
  unfold valsOf at hv
  obtain ⟨q, _, rfl⟩ := List.mem_map.1 hv
  exact valAt_lt h q
theorem checkD_lt {s : ByteArray} (h : digB s = true) : checkD s < 10 := (checkV_ok (valsOf_lt h)).1
set_option maxHeartbeats 4000000 in
theorem dCheck_any (s : ByteArray) (w : World) (hd : digB s = true) (h1 : 1 ≤ s.size) (h2 : s.size ≤ 30) :
    Calls Tryz.prog 50 #[sysA, .string s] w fun e w' => e = .returned (.tuple #[.int .u8 (48 + (checkD s : Nat)), .int .i64 0]) ∧ Below w.heap.size w w' := by
  have hd0 : digB (s ++ ⟨#[48]⟩) = true := digB_append hd (by kernel_rfl)
  have hsz : (s ++ ⟨#[48]⟩ : ByteArray).size = s.size + 1 := by rw [ByteArray.size_append]; rfl
  have HVO := Lib.hid (fun W => valuesOf_any (s ++ ⟨#[48]⟩) W hd0 (by omega) (by omega))
  have HCK : Hid (∀ g W B, OwnR W B (s.size + 1) g (valAt (s ++ ⟨#[48]⟩)) → B ≤ W.heap.size → Calls Tryz.prog 96 #[.agg #[.int .u8 4, .slice none 0 0], .slice (some ⟨g, 0, none⟩) (s.size + 1) (s.size + 1)] W fun e w' => e = .returned (.int .i64 (checkD s : Nat)) ∧ OwnR w' B (s.size + 1) g (updZ (valAt (s ++ ⟨#[48]⟩)) (checkD s)) ∧ Below B W w') := fun g W B ho hB => by
    have := check_any (s.size + 1) g B _ W ho (by omega) (by omega) (fun q _ _ => valAt_lt hd0 q) hB
    rw [rest_snoc] at this
    exact this
  rw [hsz] at HVO
  have hcl := checkD_lt hd
  have HPY := Lib.hid (fun W => dPayload_any s W (by unfold maxLen; omega))
  have hne : s.toList.isEmpty = false := by
    rw [ByteArray.toList_eq]
    have : s.data.toList.length = s.size := rfl
    cases he : s.data.toList with
    | nil => rw [he] at this; simp at this; omega
    | cons => rfl
  rw [hd, hne] at HPY
  have HRG := Lib.hid (fun W => right_any W)
  have HCH := Lib.hid (fun W => character_any (checkD s) W hcl)
  unfold sysA at HRG ⊢
  clear hd hd0 hsz hne
  generalize checkD s = c at HCK hcl HCH
  generalize valAt (s ++ ⟨#[48]⟩) = f at HVO HCK
  have hov : ¬ 9223372036854775807 < s.size + 1 := by omega
  go_enter Tryz.func50, Tryz.ntmps50
  go_wp2_with fail
  refine (HRG.out _).mono ?_
  rintro e w1 ⟨rfl, hb1⟩
  have hz1 : w.heap.size < w1.heap.size := by have := hb1.size; simp at this; omega
  have b0 : w1.cell? ⟨w.heap.size, 0, none⟩ = some (.int .u8 4) := (hb1.cell (p := ⟨w.heap.size, 0, none⟩) (by simp)).trans (by simp [go_sem])
  have b1 : w1.cell? ⟨w.heap.size, 1, none⟩ = some (.slice none 0 0) := (hb1.cell (p := ⟨w.heap.size, 1, none⟩) (by simp)).trans (by simp [go_sem])
  have HB1 : Hid (Below w.heap.size w w1) := ((Below.refl _ w).alloc (Nat.le_refl _) _).trans (hb1.mono (by simp))
  clear hb1
  go_wp2_with fail
  refine (HPY.out _).mono ?_
  rintro e w2 ⟨rfl, hb2⟩
  have d0 : w2.cell? ⟨w.heap.size, 0, none⟩ = _ := (hb2.cell (p := ⟨w.heap.size, 0, none⟩) hz1).trans b0
  have d1 : w2.cell? ⟨w.heap.size, 1, none⟩ = _ := (hb2.cell (p := ⟨w.heap.size, 1, none⟩) hz1).trans b1
  have hz2 : w.heap.size < w2.heap.size := by have := hb2.size; omega
  have HB2 := Lib.hid (HB1.out.trans (hb2.mono (by omega)))
  clear hb2 b0 b1 HB1 hz1
  go_wp2_with fail
  refine (HVO.out _).mono ?_
  rintro e w3 ⟨g, rfl, ho3, hb3⟩
  have e0 : w3.cell? ⟨w.heap.size, 0, none⟩ = _ := (hb3.cell (p := ⟨w.heap.size, 0, none⟩) hz2).trans d0
  have e1 : w3.cell? ⟨w.heap.size, 1, none⟩ = _ := (hb3.cell (p := ⟨w.heap.size, 1, none⟩) hz2).trans d1
  have hz3 : w2.heap.size ≤ w3.heap.size := hb3.size
  have HB3 := Lib.hid (HB2.out.trans (hb3.mono (by omega)))
  have HO3 := Lib.hid ho3
  have hg3 := ho3.lt g rfl
  clear hb3 ho3 d0 d1 HB2
  go_wp2_with fail
  refine (HCK.out g w3 w2.heap.size HO3.out hz3).mono ?_
  rintro e w4 ⟨rfl, ho4, hb4⟩
  have HB4 := Lib.hid (HB3.out.trans (hb4.mono (by omega)))
  have hfz := ho4.frozenAt 0
  have hcl4 := ho4.cellAt 0 (by omega)
  rw [rowV_get (by omega)] at hcl4
  have hu0 : updZ f c 0 = c := rfl
  rw [hu0] at hcl4
  have hg4 : g < w4.heap.size := (ho4.lt g rfl).2
  have hgw : w.heap.size ≤ g := by omega
  clear hb4 ho4 HO3 HB3 e0 e1 hu0
  have hN0 : (0 : Int) < (s.size : Int) + 1 := by omega
  go_wp2_with fail
  refine (HCH.out _).mono ?_
  rintro e w5 ⟨rfl, rfl⟩
  go_wp2_with fail
  go_ret2
  exact ⟨rfl, HB4.out.setCell (p := ⟨g, 0, none⟩) hgw _⟩
end Go.Proofs.YtgdlgfplheeblaaGreatDoor
