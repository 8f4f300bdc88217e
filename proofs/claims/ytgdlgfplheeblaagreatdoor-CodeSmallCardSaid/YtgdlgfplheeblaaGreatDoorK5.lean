/-
  Contracts of package digit at the system Perm: the values of a text.
-/
import Derived.Test.YtgdlgfplheeblaaGreatDoorK4
import Derived.Maps.OwnRows
namespace Go.Proofs.YtgdlgfplheeblaaGreatDoor
open Go.RowKit
set_option linter.unusedVariables false
set_option maxRecDepth 100000
/-- A row of numbers. -/
def rowV (N : Nat) (f : Nat → Nat) : List Value := (List.range N).map (fun q => .int .i64 (f q : Nat))
theorem rowV_set (N : Nat) (f : Nat → Nat) (i x : Nat) : (rowV N f).set i (.int .i64 (x : Nat)) = rowV N (fun q => if q = i then x else f q) := by
  unfold rowV
  refine List.ext_getElem? (fun q => ?_)
  rw [List.getElem?_set, List.getElem?_map, List.getElem?_map, List.length_map, List.length_range]
  by_cases hq : q < N
  · rw [List.getElem?_range hq]
    by_cases hi : i = q
    · subst hi
      rw [if_pos rfl, if_pos hq]
      simp
    · rw [if_neg hi]
      have hne : ¬ q = i := fun h => hi h.symm
      simp [hne]
  · have hn : (List.range N)[q]? = none := List.getElem?_eq_none (by rw [List.length_range]; omega)
    rw [hn]
    by_cases hi : i = q
    · rw [if_pos hi, if_neg (by omega)]; rfl
    · rw [if_neg hi]; rfl
theorem rowV_zero (N : Nat) : rowV N (fun _ => 0) = List.replicate N (.int .i64 0) := by
  unfold rowV
  refine List.eq_replicate_iff.2 ⟨by simp, fun v hv => ?_⟩
  obtain ⟨q, _, rfl⟩ := List.mem_map.1 hv
  rfl
theorem rowV_get {N : Nat} {f : Nat → Nat} {q : Nat} (h : q < N) : (rowV N f)[q]? = some (.int .i64 (f q : Nat)) := by
  unfold rowV
  rw [List.getElem?_map, List.getElem?_range h]
  rfl
theorem rowV_congr {N : Nat} {f h : Nat → Nat} (e : ∀ q, q < N → f q = h q) : rowV N f = rowV N h := by
  unfold rowV
  refine List.map_congr_left (fun q hq => ?_)
  rw [e q (List.mem_range.1 hq)]
/-- A row of the call's own. -/
abbrev OwnR (w : World) (base N : Nat) (g : Nat) (f : Nat → Nat) : Prop := w.ownsRow base 3 1 (.slice (some ⟨g, 0, none⟩) N N) N (rowV N f)
theorem Tryz.infoI : (Tryz.prog.info? 3).map (fun i => (i.zero, i.size, i.bytes)) = some (some (.int .i64 0), 1, 8) := by kernel_rfl
/-- The values of a text of digits, from its end. -/
def valAt (s : ByteArray) (q : Nat) : Nat := (s.data.toList.getD (s.size - 1 - q) 48).toNat - 48
def valsOf (s : ByteArray) : List Nat := (List.range s.size).map (valAt s)
def fillAt (s : ByteArray) (k q : Nat) : Nat := if s.size - 1 - q < k then valAt s q else 0
theorem fill_succ (s : ByteArray) (k : Nat) (h : k < s.size) : rowV s.size (fillAt s (k + 1)) = (rowV s.size (fillAt s k)).set (s.size - 1 - k) (.int .i64 ((s[k].toNat - 48 : Nat) : Int)) := by
  rw [rowV_set]
  refine rowV_congr (fun q hq => ?_)
  unfold fillAt
  by_cases e : q = s.size - 1 - k
  · rw [if_pos e, if_pos (by omega)]
    unfold valAt
    rw [e, show s.size - 1 - (s.size - 1 - k) = k by omega, List.getD_eq_getElem?_getD, List.getElem?_eq_getElem (by simpa using h)]
    rfl
  · rw [if_neg e]
    by_cases e2 : s.size - 1 - q < k
    · rw [if_pos (by omega), if_pos e2]
    · rw [if_neg (by omega), if_neg e2]
theorem grown_none' {A B : World} (h : Below A.heap.size A B) : A.grownBy B none := ⟨h.os, h.tape, h.output, h.size, fun k hk _ => h.block k hk⟩
set_option maxHeartbeats 4000000 in
theorem valuesOf_any (s : ByteArray) (w : World) (hd : digB s = true) (h1 : 1 ≤ s.size) (h2 : s.size ≤ 100) :
    Calls Tryz.prog 54 #[.string s] w fun e w' => ∃ g, e = .returned (.slice (some ⟨g, 0, none⟩) s.size s.size) ∧ OwnR w' w.heap.size s.size g (valAt s) ∧ Below w.heap.size w w' := by
  have HD : Hid (∀ j (h : j < s.size), 48 ≤ (s[j].toNat : Int) ∧ (s[j].toNat : Int) ≤ 57) := fun j h => by
    unfold digB allB at hd
    have := List.all_eq_true.1 hd s[j] (Array.mem_toList_iff.2 (Array.getElem_mem (xs := s.data) h))
    unfold isDigit at this
    simpa using this
  have HVA : Hid (∀ k (h : k < s.size), valAt s (s.size - 1 - k) = s[k].toNat - 48) := fun k h => by
    unfold valAt
    rw [show s.size - 1 - (s.size - 1 - k) = k by omega, List.getD_eq_getElem?_getD, List.getElem?_eq_getElem (by simpa using h)]
    rfl
  clear hd
  go_enter Tryz.func54, Tryz.ntmps54
  go_wp2_with fail
  obtain ⟨i0, hi⟩ := info_parts Tryz.infoI
  obtain ⟨w9, hmk, hownL, hgL⟩ := run_make_full (P := Tryz.prog) w w.heap.size 26 3 i0 (.int .i64 0) 1 Tryz.underlying26 hi.1 hi.2.1 hi.2.2.1 .i64 .i64 s.size (by rw [hi.2.2.2]; omega) (by unfold maxLen; omega) (Nat.le_refl _)
  clear hi
  rw [hmk]
  have hb9 : Below w.heap.size w w9 := (Below.refl _ _).grown hgL (Nat.le_refl _) (fun _ e => by cases e)
  have HB9 := Lib.hid hb9
  have e0 : (madeCells (Value.int .i64 0).cells (s.size * 1)).toList = rowV s.size (fun _ => 0) := by
    rw [Nat.mul_one, rowV_zero]
    show (madeCells #[Value.int .i64 0] s.size).toList = _
    rw [toList_madeCells_one]
  rw [e0] at hownL
  have HO9 := Lib.hid hownL
  have hlt9 : w.heap.size < w9.heap.size := (hownL.lt w.heap.size rfl).2
  obtain ⟨cap, C, hcap, hconv, hcell⟩ := conv_bytes w9 s
  have HC := Lib.hid hcell
  clear hcell hmk hgL e0 hownL hb9
  go_wp2_with fail
  have hst : ((w9.alloc (.cells C 5 (C.size, C.size + 1))).drew).ownsRow w.heap.size 3 1 (.slice (some ⟨w.heap.size, 0, none⟩) s.size s.size) s.size (rowV s.size (fillAt s 0)) := by
    have e : rowV s.size (fillAt s 0) = rowV s.size (fun _ => 0) := rowV_congr (fun q hq => by unfold fillAt; rw [if_neg (by omega)])
    rw [e]
    exact HO9.out.alloc _
  have hbs : Below w.heap.size w ((w9.alloc (.cells C 5 (C.size, C.size + 1))).drew) := (HB9.out.alloc HB9.out.size _).drew
  have HST := Lib.hid hst
  have HBS := Lib.hid hbs
  clear hst hbs HO9 HB9 hcap hconv
  go_loopw [13] (fun i wr => ∃ k : Nat, k ≤ s.size ∧ i = .int .i64 k ∧ OwnR wr w.heap.size s.size w.heap.size (fillAt s k) ∧ Below w.heap.size w wr ∧ w9.heap.size < wr.heap.size ∧ Hid (∀ j (h : j < s.size), wr.cell? ⟨w9.heap.size, j, none⟩ = some (.int .u8 (s[j].toNat : Int)))) (fun i _ => s.size - (intOf i).toNat)
  case atStart => exact ⟨0, Nat.zero_le _, rfl, HST.out, HBS.out, by simp, fun j h => HC.out j h⟩
  case round =>
    clear HST HBS HC
    obtain ⟨k, hk, rfl, hown, hB, hz, HCC⟩ := hrel
    by_cases hlt : k < s.size
    · have c := HCC.out k hlt
      obtain ⟨d1, d2⟩ := HD.out k hlt
      have hne88 : ((s[k].toNat : Int) != 88) = true := by simp; omega
      have HFS := Lib.hid (fill_succ s k hlt)
      have hxv : ((s[k].toNat : Int) - 48) = ((s[k].toNat - 48 : Nat) : Int) := by omega
      have HXV := Lib.hid hxv
      have HST := Lib.hid (hown.stored (s.size - 1 - k) (.int .i64 ((s[k].toNat - 48 : Nat) : Int))).1
      have hfz := hown.frozenAt (s.size - 1 - k)
      have hcl := hown.cellAt (s.size - 1 - k) (by omega)
      rw [rowV_get (by omega)] at hcl
      have hne : ¬ w9.heap.size = w.heap.size := by omega
      have HCN : Hid (∀ v j (h : j < s.size), (wr.setCell ⟨w.heap.size, s.size - 1 - k, none⟩ v).cell? ⟨w9.heap.size, j, none⟩ = some (.int .u8 (s[j].toNat : Int))) := fun v j h => by
        rw [World.cell?_setCell_other _ _ _ _ (by intro h; simp only [Addr.mk.injEq] at h; omega)]
        exact HCC.out j h
      clear hxv hown HCC
      rw [← HXV.out] at HST
      generalize (s[k].toNat : Int) = n at c d1 d2 hne88 HST HXV
      have hw1 : IntKind.i64.wrap ((s.size : Int) - 1) = (s.size : Int) - 1 := IntWalk.i64_in _ (by omega)
      have hw2 : 0 ≤ (s.size : Int) - 1 - (k : Int) := by omega
      have hw3 : ((s.size : Int) - 1 - (k : Int)).toNat = s.size - 1 - k := by omega
      have hw4 : (s.size : Int) - 1 - (k : Int) < (s.size : Int) := by omega
      have hw5 : (k : Int) ≤ (s.size : Int) - 1 := by omega
      go_wp2_with fail
      go_roundw
      case rel => exact ⟨k + 1, by omega, by go_num, by unfold OwnR; rw [HFS.out, ← HXV.out]; exact HST.out, hB.setCell (p := ⟨w.heap.size, s.size - 1 - k, none⟩) (Nat.le_refl _) _, by simp; omega, fun j h => HCN.out _ j h⟩
      case measure => simp [intOf]; omega
    · obtain rfl : k = s.size := by omega
      have HE : Hid (rowV s.size (fillAt s s.size) = rowV s.size (valAt s)) := rowV_congr (fun q hq => by unfold fillAt; rw [if_pos (by omega)])
      go_wp2_with fail
      go_ret
      exact ⟨_, rfl, by unfold OwnR; rw [← HE.out]; exact hown, hB⟩
end Go.Proofs.YtgdlgfplheeblaaGreatDoor
