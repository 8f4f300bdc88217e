/-
  Contracts of fold.Words and letterbagref05.Words: both return the words of a text.
-/
import Derived.Test.YtdcpmnkebhilpaaGreatDoorB
import Derived.OwnWalk
import Derived.Maps.AppendAt
namespace Go.Proofs.YtdcpmnkebhilpaaGreatDoor
open Go.RowKit
theorem Tryz.infoS : (Tryz.prog.info? 9).map (fun i => (i.zero, i.size, i.bytes)) = some (some (.string ⟨#[]⟩), 1, 16) := by kernel_rfl
def wStep (s : ByteArray) (st : List ByteArray × Nat) (i : Nat) : List ByteArray × Nat :=
  if s.data.toList.getD i 32 = 32 then (if st.2 < i then st.1 ++ [s.extract st.2 i] else st.1, i + 1) else st
def wordsTo (s : ByteArray) : Nat → List ByteArray × Nat
  | 0 => ([], 0)
  | k + 1 => wStep s (wordsTo s k) k
def wordsB (s : ByteArray) : List ByteArray := (wordsTo s (s.size + 1)).1
theorem wordsTo_le (s : ByteArray) : ∀ k, (wordsTo s k).2 ≤ k ∧ (wordsTo s k).1.length ≤ k
  | 0 => by simp [wordsTo]
  | k + 1 => by
    have ⟨h1, h2⟩ := wordsTo_le s k
    rw [wordsTo]; unfold wStep
    split
    · refine ⟨Nat.le_refl _, ?_⟩
      show (if _ then _ else _ : List ByteArray).length ≤ _
      split <;> (try simp) <;> omega
    · exact ⟨by omega, by omega⟩
theorem getD_32 {s : ByteArray} {k : Nat} (h : k < s.size) : s.data.toList.getD k 32 = s[k] := by
  rw [List.getD_eq_getElem?_getD, List.getElem?_eq_getElem (by simpa using h)]; rfl
theorem getD_32_out {s : ByteArray} {k : Nat} (h : s.size ≤ k) : s.data.toList.getD k 32 = 32 := by
  rw [List.getD_eq_getElem?_getD, List.getElem?_eq_none (by simpa using h)]; rfl
theorem u8_int (c d : UInt8) (m : Int) (hm : (d.toNat : Int) = m) : ((c.toNat : Int) == m) = decide (c = d) := by
  subst hm
  rw [Bool.eq_iff_iff]
  simp only [beq_iff_eq, decide_eq_true_eq]
  constructor
  · intro e; exact UInt8.toNat_inj.1 (Int.ofNat_inj.1 e)
  · intro e; rw [e]
theorem u8_intn (c d : UInt8) (m : Int) (hm : (d.toNat : Int) = m) : ((c.toNat : Int) != m) = !decide (c = d) := by
  rw [bne, u8_int c d m hm]
set_option maxHeartbeats 2000000 in
theorem words_any (s : ByteArray) (w : World) (hs : s.size ≤ 60000) :
    Calls Tryz.prog 83 #[.string s] w fun e w' => ∃ v, e = .returned v ∧ Below w.heap.size w w' ∧ w'.ownsRow w.heap.size 9 1 v (wordsB s).length ((wordsB s).map Value.string) := by
  obtain ⟨i0, hi⟩ := info_parts Tryz.infoS
  have HI := Lib.hid hi
  clear hi
  go_enter Tryz.func83, Tryz.ntmps83
  go_wp2_with fail
  go_loopw [3, 4, 5] (fun v a i wr => ∃ k : Nat, k ≤ s.size + 1 ∧ i = .int .i64 k ∧ a = .int .i64 ((wordsTo s k).2 : Nat) ∧ Below w.heap.size w wr ∧
      wr.ownsRow w.heap.size 9 1 v (wordsTo s k).1.length ((wordsTo s k).1.map Value.string)) (fun _ _ i _ => s.size + 1 - (intOf i).toNat)
  case atStart => exact ⟨0, Nat.zero_le _, rfl, rfl, Below.refl _ _, World.ownsRow_nil _ _ _ _⟩
  case round =>
    obtain ⟨k, hk, rfl, rfl, hb, hown⟩ := hrel
    have hle := wordsTo_le s k
    have hstep : wordsTo s (k + 1) = wStep s (wordsTo s k) k := rfl
    generalize hst : wordsTo s k = st at hle hstep hown ⊢
    obtain ⟨ws, from_⟩ := st
    obtain ⟨hle1, hle2⟩ := hle
    simp only at hle1 hle2 hown ⊢
    have HS := Lib.hid hstep
    have HT := Lib.hid hst
    clear hstep hst
    by_cases hlt : k < s.size + 1
    · by_cases hlt2 : k < s.size
      · have hne := u8_intn s[k] 32 32 rfl
        have heq := u8_int s[k] 32 32 rfl
        have hg := getD_32 hlt2
        have HG := Lib.hid hg
        clear hg
        by_cases h32 : s[k] = 32
        · rw [decide_eq_true h32] at hne heq
          simp only [Bool.not_true] at hne
          have H32 := Lib.hid h32
          clear h32
          by_cases hgt : from_ < k
          · have hx : wordsTo s (k + 1) = (ws ++ [s.extract from_ k], k + 1) := by rw [HS.out]; unfold wStep; rw [HG.out, H32.out]; simp [hgt]
            have HX := Lib.hid hx
            clear hx
            go_wp2_with (at_builtin; refine wpList_append_own _ rfl _ _ 26 rfl w.heap.size 9 i0 (.string ⟨#[]⟩) 1 16 Tryz.underlying26 HI.out.1 HI.out.2.1 HI.out.2.2.1 HI.out.2.2.2 rfl (by decide) _ _ _ rfl (hown.alloc _) ⟨wr.heap.size, 0, none⟩ 1 1 [.string (s.extract from_ k)] rfl rfl (cell_one_new _ _ _) (by simp [Value.oneCell']) (by unfold maxLen; omega) (by omega) (by have := hb.size; simp; omega) ?_; intro v' w1 hown' hgrow _; have hb1 : Below w.heap.size w w1 := (hb.alloc hb.size _).grown hgrow (by have := hb.size; simp; omega) (fun r e => (hown.lt r e).1); clear hown hgrow)
            go_roundw
            case rel => exact ⟨k + 1, by omega, by go_num, by rw [HX.out]; go_num, hb1, by rw [HX.out]; simpa using hown'⟩
            case measure => simp [intOf]; omega
          · have hx : wordsTo s (k + 1) = (ws, k + 1) := by rw [HS.out]; unfold wStep; rw [HG.out, H32.out]; simp [hgt]
            have HX := Lib.hid hx
            clear hx
            go_wp2_with fail
            go_roundw
            case rel => exact ⟨k + 1, by omega, by go_num, by rw [HX.out]; go_num, hb, by rw [HX.out]; exact hown⟩
            case measure => simp [intOf]; omega
        · rw [decide_eq_false h32] at hne heq
          simp only [Bool.not_false] at hne
          have H32 := Lib.hid h32
          clear h32
          go_wp2_with fail
          go_roundw
          case rel => exact ⟨k + 1, by omega, by go_num, by rw [HS.out]; unfold wStep; rw [if_neg (by rw [HG.out]; exact H32.out)], hb, by rw [HS.out]; unfold wStep; rw [if_neg (by rw [HG.out]; exact H32.out)]; exact hown⟩
          case measure => simp [intOf]; omega
      · have heq : ((k : Int) == (s.size : Int)) = true := by simp; omega
        by_cases hgt : from_ < k
        · have hx : wordsTo s (k + 1) = (ws ++ [s.extract from_ k], k + 1) := by rw [HS.out]; unfold wStep; rw [getD_32_out (by omega)]; simp [hgt]
          have HX := Lib.hid hx
          clear hx
          go_wp2_with (at_builtin; refine wpList_append_own _ rfl _ _ 26 rfl w.heap.size 9 i0 (.string ⟨#[]⟩) 1 16 Tryz.underlying26 HI.out.1 HI.out.2.1 HI.out.2.2.1 HI.out.2.2.2 rfl (by decide) _ _ _ rfl (hown.alloc _) ⟨wr.heap.size, 0, none⟩ 1 1 [.string (s.extract from_ k)] rfl rfl (cell_one_new _ _ _) (by simp [Value.oneCell']) (by unfold maxLen; omega) (by omega) (by have := hb.size; simp; omega) ?_; intro v' w1 hown' hgrow _; have hb1 : Below w.heap.size w w1 := (hb.alloc hb.size _).grown hgrow (by have := hb.size; simp; omega) (fun r e => (hown.lt r e).1); clear hown hgrow)
          go_roundw
          case rel => exact ⟨k + 1, by omega, by go_num, by rw [HX.out]; go_num, hb1, by rw [HX.out]; simpa using hown'⟩
          case measure => simp [intOf]; omega
        · have hx : wordsTo s (k + 1) = (ws, k + 1) := by rw [HS.out]; unfold wStep; rw [getD_32_out (by omega)]; simp [hgt]
          have HX := Lib.hid hx
          clear hx
          go_wp2_with fail
          go_roundw
          case rel => exact ⟨k + 1, by omega, by go_num, by rw [HX.out]; go_num, hb, by rw [HX.out]; exact hown⟩
          case measure => simp [intOf]; omega
    · go_wp2_with fail
      go_ret
      obtain rfl : k = s.size + 1 := by omega
      refine ⟨_, rfl, hb, ?_⟩
      unfold wordsB
      rw [HT.out]
      exact hown
set_option maxHeartbeats 2000000 in
theorem refWords_any (s : ByteArray) (w : World) (hs : s.size ≤ 60000) :
    Calls Tryz.prog 87 #[.string s] w fun e w' => ∃ v, e = .returned v ∧ Below w.heap.size w w' ∧ w'.ownsRow w.heap.size 9 1 v (wordsB s).length ((wordsB s).map Value.string) := by
  obtain ⟨i0, hi⟩ := info_parts Tryz.infoS
  have HI := Lib.hid hi
  clear hi
  go_enter Tryz.func87, Tryz.ntmps87
  go_wp2_with fail
  go_loopw [3, 4, 5] (fun v a i wr => ∃ k : Nat, k ≤ s.size + 1 ∧ i = .int .i64 k ∧ a = .int .i64 ((wordsTo s k).2 : Nat) ∧ Below w.heap.size w wr ∧
      wr.ownsRow w.heap.size 9 1 v (wordsTo s k).1.length ((wordsTo s k).1.map Value.string)) (fun _ _ i _ => s.size + 1 - (intOf i).toNat)
  case atStart => exact ⟨0, Nat.zero_le _, rfl, rfl, Below.refl _ _, World.ownsRow_nil _ _ _ _⟩
  case round =>
    obtain ⟨k, hk, rfl, rfl, hb, hown⟩ := hrel
    have hle := wordsTo_le s k
    have hstep : wordsTo s (k + 1) = wStep s (wordsTo s k) k := rfl
    generalize hst : wordsTo s k = st at hle hstep hown ⊢
    obtain ⟨ws, from_⟩ := st
    obtain ⟨hle1, hle2⟩ := hle
    simp only at hle1 hle2 hown ⊢
    have HS := Lib.hid hstep
    have HT := Lib.hid hst
    clear hstep hst
    by_cases hlt : k < s.size + 1
    · by_cases hlt2 : k < s.size
      · have hne := u8_intn s[k] 32 32 rfl
        have heq := u8_int s[k] 32 32 rfl
        have hg := getD_32 hlt2
        have HG := Lib.hid hg
        clear hg
        by_cases h32 : s[k] = 32
        · rw [decide_eq_true h32] at hne heq
          simp only [Bool.not_true] at hne
          have H32 := Lib.hid h32
          clear h32
          by_cases hgt : from_ < k
          · have hx : wordsTo s (k + 1) = (ws ++ [s.extract from_ k], k + 1) := by rw [HS.out]; unfold wStep; rw [HG.out, H32.out]; simp [hgt]
            have HX := Lib.hid hx
            clear hx
            go_wp2_with (at_builtin; refine wpList_append_own _ rfl _ _ 26 rfl w.heap.size 9 i0 (.string ⟨#[]⟩) 1 16 Tryz.underlying26 HI.out.1 HI.out.2.1 HI.out.2.2.1 HI.out.2.2.2 rfl (by decide) _ _ _ rfl (hown.alloc _) ⟨wr.heap.size, 0, none⟩ 1 1 [.string (s.extract from_ k)] rfl rfl (cell_one_new _ _ _) (by simp [Value.oneCell']) (by unfold maxLen; omega) (by omega) (by have := hb.size; simp; omega) ?_; intro v' w1 hown' hgrow _; have hb1 : Below w.heap.size w w1 := (hb.alloc hb.size _).grown hgrow (by have := hb.size; simp; omega) (fun r e => (hown.lt r e).1); clear hown hgrow)
            go_roundw
            case rel => exact ⟨k + 1, by omega, by go_num, by rw [HX.out]; go_num, hb1, by rw [HX.out]; simpa using hown'⟩
            case measure => simp [intOf]; omega
          · have hx : wordsTo s (k + 1) = (ws, k + 1) := by rw [HS.out]; unfold wStep; rw [HG.out, H32.out]; simp [hgt]
            have HX := Lib.hid hx
            clear hx
            go_wp2_with fail
            go_roundw
            case rel => exact ⟨k + 1, by omega, by go_num, by rw [HX.out]; go_num, hb, by rw [HX.out]; exact hown⟩
            case measure => simp [intOf]; omega
        · rw [decide_eq_false h32] at hne heq
          simp only [Bool.not_false] at hne
          have H32 := Lib.hid h32
          clear h32
          go_wp2_with fail
          go_roundw
          case rel => exact ⟨k + 1, by omega, by go_num, by rw [HS.out]; unfold wStep; rw [if_neg (by rw [HG.out]; exact H32.out)], hb, by rw [HS.out]; unfold wStep; rw [if_neg (by rw [HG.out]; exact H32.out)]; exact hown⟩
          case measure => simp [intOf]; omega
      · have heq : ((k : Int) == (s.size : Int)) = true := by simp; omega
        by_cases hgt : from_ < k
        · have hx : wordsTo s (k + 1) = (ws ++ [s.extract from_ k], k + 1) := by rw [HS.out]; unfold wStep; rw [getD_32_out (by omega)]; simp [hgt]
          have HX := Lib.hid hx
          clear hx
          go_wp2_with (at_builtin; refine wpList_append_own _ rfl _ _ 26 rfl w.heap.size 9 i0 (.string ⟨#[]⟩) 1 16 Tryz.underlying26 HI.out.1 HI.out.2.1 HI.out.2.2.1 HI.out.2.2.2 rfl (by decide) _ _ _ rfl (hown.alloc _) ⟨wr.heap.size, 0, none⟩ 1 1 [.string (s.extract from_ k)] rfl rfl (cell_one_new _ _ _) (by simp [Value.oneCell']) (by unfold maxLen; omega) (by omega) (by have := hb.size; simp; omega) ?_; intro v' w1 hown' hgrow _; have hb1 : Below w.heap.size w w1 := (hb.alloc hb.size _).grown hgrow (by have := hb.size; simp; omega) (fun r e => (hown.lt r e).1); clear hown hgrow)
          go_roundw
          case rel => exact ⟨k + 1, by omega, by go_num, by rw [HX.out]; go_num, hb1, by rw [HX.out]; simpa using hown'⟩
          case measure => simp [intOf]; omega
        · have hx : wordsTo s (k + 1) = (ws, k + 1) := by rw [HS.out]; unfold wStep; rw [getD_32_out (by omega)]; simp [hgt]
          have HX := Lib.hid hx
          clear hx
          go_wp2_with fail
          go_roundw
          case rel => exact ⟨k + 1, by omega, by go_num, by rw [HX.out]; go_num, hb, by rw [HX.out]; exact hown⟩
          case measure => simp [intOf]; omega
    · go_wp2_with fail
      go_ret
      obtain rfl : k = s.size + 1 := by omega
      refine ⟨_, rfl, hb, ?_⟩
      unfold wordsB
      rw [HT.out]
      exact hown
end Go.Proofs.YtdcpmnkebhilpaaGreatDoor
