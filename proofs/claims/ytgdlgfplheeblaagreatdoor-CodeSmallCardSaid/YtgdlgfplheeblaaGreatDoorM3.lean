/-
  The reference of check digits at the system Perm: Values, Test, Check.
-/
import Derived.Test.YtgdlgfplheeblaaGreatDoorM2
import Derived.Maps.AppendAt
namespace Go.Proofs.YtgdlgfplheeblaaGreatDoor
open Go.RowKit
set_option linter.unusedVariables false
set_option maxRecDepth 100000
theorem right16_any (w : World) : Calls Tryz.prog 67 #[.int .u8 4, .slice none 0 0] w fun e w' => e = .returned (.bool true) ∧ w = w' := by
  go_enter Tryz.func67, Tryz.ntmps67
  go_wp2
  go_ret
  exact ⟨rfl, rfl⟩
/-- The first values of a text, as a list that the call owns. -/
def OwnsV (w : World) (B : Nat) (v : Value) (xs : List Nat) : Prop := w.ownsRow B 3 1 v xs.length (xs.map (fun n => Value.int .i64 (n : Nat)))
theorem ownsV_nil (w : World) (B : Nat) : OwnsV w B (.slice none 0 0) [] := ⟨by simp, .inl ⟨rfl, rfl⟩⟩
def valsTo (s : ByteArray) (k : Nat) : List Nat := (List.range k).map (valAt s)
theorem valsTo_succ (s : ByteArray) (k : Nat) : valsTo s (k + 1) = valsTo s k ++ [valAt s k] := by unfold valsTo; rw [List.range_succ, List.map_append]; rfl
theorem valsTo_all (s : ByteArray) : valsTo s s.size = valsOf s := rfl
theorem valsTo_len (s : ByteArray) (k : Nat) : (valsTo s k).length = k := by simp [valsTo]
set_option maxHeartbeats 4000000 in
theorem values16_any (s : ByteArray) (w : World) (hd : digB s = true) (h1 : 2 ≤ s.size) (h2 : s.size ≤ 31) :
    Calls Tryz.prog 68 #[.int .u8 4, .slice none 0 0, .string s] w fun e w' => ∃ v, e = .returned (.tuple #[v, .int .i64 0]) ∧ OwnsV w' w.heap.size v (valsOf s) ∧ Below w.heap.size w w' := by
  have HD := Lib.hid hd
  have HR := Lib.hid (fun W => right16_any W)
  obtain ⟨i0, hi⟩ := info_parts Tryz.infoI
  have HI := Lib.hid hi
  clear hi hd
  go_enter Tryz.func68, Tryz.ntmps68
  go_wp2_with fail
  refine (HR.out _).mono ?_
  rintro e w1 ⟨rfl, rfl⟩
  go_wp2_with fail
  go_loopw [8, 9] (fun v i wr => ∃ k : Nat, k ≤ s.size ∧ i = .int .i64 k ∧ OwnsV wr w.heap.size v (valsTo s k) ∧ Below w.heap.size w wr) (fun _ i _ => s.size - (intOf i).toNat)
  case atStart => exact ⟨0, Nat.zero_le _, rfl, ownsV_nil _ _, Below.refl _ _⟩
  case round =>
    obtain ⟨k, hk, rfl, hown, hB⟩ := hrel
    by_cases hlt : k < s.size
    · obtain ⟨q, hq⟩ : ∃ q, s.size - 1 - k = q := ⟨_, rfl⟩
      have hqs : q < s.size := by omega
      have hqi : (s.size : Int) - 1 - (k : Int) = (q : Int) := by omega
      have hb := digB_iff.1 HD.out (s[q]'hqs) (Array.mem_toList_iff.2 (Array.getElem_mem (xs := s.data) hqs))
      have hva : valAt s k = (s[q]'hqs).toNat - 48 := by
        unfold valAt
        rw [hq, List.getD_eq_getElem?_getD, List.getElem?_eq_getElem (by exact hqs)]; rfl
      have hxv : ((s[q]'hqs).toNat : Int) - 48 = ((valAt s k : Nat) : Int) := by rw [hva]; omega
      have HXV := Lib.hid hxv
      have d1 : decide (48 ≤ ((s[q]'hqs).toNat : Int)) = true := decide_eq_true (by omega)
      have d2 : decide (((s[q]'hqs).toNat : Int) ≤ 57) = true := decide_eq_true (by omega)
      have hx1 : (48 : Int) ≤ ((s[q]'hqs).toNat : Int) := by omega
      have hx2 : ((s[q]'hqs).toNat : Int) ≤ 57 := by omega
      have hlen : (valsTo s k).length = k := valsTo_len s k
      have HL := Lib.hid hlen
      have hlen' : (valsTo s k).length ≤ 31 := by omega
      have HN := Lib.hid (valsTo_succ s k)
      unfold OwnsV at hown
      generalize valsTo s k = acc at hown HL hlen' HN
      clear hb hva hxv hlen hq
      go_wp2_with (at_builtin; refine wpList_append_own _ rfl _ _ 26 rfl w.heap.size 3 i0 (.int .i64 0) 1 8 Tryz.underlying26 HI.out.1 HI.out.2.1 HI.out.2.2.1 HI.out.2.2.2 rfl (by decide) _ _ _ rfl (hown.alloc _) ⟨wr.heap.size, 0, none⟩ 1 1 [.int .i64 (((s[q]'hqs).toNat : Int) - 48)] rfl rfl (by have := cell_one_new wr (.int .i64 (((s[q]'hqs).toNat : Int) - 48)) 3; simpa using this) (by simp [Value.oneCell']) (by unfold maxLen; omega) (by omega) (by have := hB.size; simp; omega) ?_; intro v' w4 hown' hgrow _)
      have hb4 : Below w.heap.size w w4 := (hB.alloc hB.size _).grown hgrow (by have := hB.size; simp; omega) (fun r e => (hown.lt r e).1)
      have HO : Hid (OwnsV w4 w.heap.size v' (valsTo s (k + 1))) := by
        show OwnsV w4 w.heap.size v' (valsTo s (k + 1))
        rw [HN.out]
        unfold OwnsV
        rw [List.length_append, List.map_append, List.length_singleton, List.map_singleton, ← HXV.out]
        exact hown'
      have HB4 := Lib.hid hb4
      clear hown hown' hgrow hB hb4
      go_roundw
      case rel => exact ⟨k + 1, by omega, by go_num, HO.out, HB4.out⟩
      case measure => simp [intOf]; omega
    · obtain rfl : k = s.size := by omega
      have HO : Hid (OwnsV wr w.heap.size u8 (valsOf s)) := hown
      have HB := Lib.hid hB
      clear hown hB
      go_wp2_with fail
      go_ret2
      exact ⟨_, rfl, HO.out, HB.out⟩
end Go.Proofs.YtgdlgfplheeblaaGreatDoor
