/-
  Contracts of the reference's Code (letterbagref08) and of letterbaglaw08.word; the walk of LexWords.
-/
import Derived.Test.YtdcpmnkebhilpaaGreatDoorR4
import Derived.Test.YtdcpmnkebhilpaaGreatDoorAw
namespace Go.Proofs.YtdcpmnkebhilpaaGreatDoor
open Go.RowKit
set_option linter.unusedVariables false
def CodePost' (c : Int) (l : List UInt8) (w : World) (e : Ending) (w' : World) : Prop :=
  ∃ t : ByteArray, t.data.toList = (refCodeR c l).1 ∧ e = .returned (.tuple #[.string t, .bool (refCodeR c l).2]) ∧ Below w.heap.size w w'
theorem ref_yes {c : Int} {s : ByteArray} {w : World} (h : refCodeR c s.data.toList = (s.data.toList, true)) : CodePost' c s.data.toList w (.returned (.tuple #[.string s, .bool true])) w := ⟨s, by rw [h], by rw [h], Below.refl _ _⟩
theorem ref_no {c : Int} {s : ByteArray} {w : World} (h : refCodeR c s.data.toList = ([], false)) : CodePost' c s.data.toList w (.returned (.tuple #[.string ⟨#[]⟩, .bool false])) w := ⟨⟨#[]⟩, by rw [h], by rw [h], Below.refl _ _⟩
theorem ext_3 (s : ByteArray) : (s.extract 0 3 ++ s.extract 4 s.size).data.toList = s.data.toList.take 3 ++ s.data.toList.drop 4 := by
  have h1 : (s.extract 0 3).data.toList = s.data.toList.take 3 := by rw [ByteArray.data_extract, Array.toList_extract, List.extract_eq_take_drop]; simp
  have h2 := drop_ext s 4
  rw [ByteArray.data_append, Array.toList_append, h1, h2]
set_option maxHeartbeats 4000000 in
theorem refCode_any (c : Int) (s : ByteArray) (w : World) (hs : s.size ≤ 60000) : Calls Tryz.prog 20 #[.int .u8 c, .string s] w (CodePost' c s.data.toList w) := by
  obtain ⟨sh, hsh, hshape⟩ := shape_ev s hs
  have hR : refCodeR c s.data.toList = if (c = 1 ∧ sh.toList = [48, 48, 48, 48, 48]) ∨ (c = 2 ∧ sh.toList = [65, 48, 65, 48, 65, 48]) ∨ (c = 3 ∧ sh.toList = [48, 48, 48, 48]) then (s.data.toList, true)
      else if c = 2 ∧ s.size = 7 ∧ sh.toList = [65, 48, 65, 32, 48, 65, 48] then (s.data.toList.take 3 ++ s.data.toList.drop 4, true) else ([], false) := by
    unfold refCodeR
    rw [ByteArray.toList_eq sh, hsh, show s.data.toList.length = s.size from by simp]
  have HS := Lib.hid hshape
  clear hsh hshape
  by_cases h1 : c = 1
  · subst h1
    by_cases h : sh.toList = [48, 48, 48, 48, 48]
    · rw [if_pos (.inl ⟨rfl, h⟩)] at hR
      have FIN := Lib.hid (ref_yes (w := w) hR)
      have e1 : (sh.toList == [48, 48, 48, 48, 48]) = true := by rw [h]; rfl
      clear h hR
      go_enter Tryz.func20, Tryz.ntmps20
      go_wp2_with (go_at_call 40; refine (HS.out _).mono ?_; rintro e w' ⟨rfl, rfl⟩)
      go_ret2
      exact FIN.out
    · rw [if_neg (by rintro (⟨_, h'⟩ | ⟨h', _⟩ | ⟨h', _⟩) <;> first | exact h h' | omega), if_neg (by omega)] at hR
      have FIN := Lib.hid (ref_no (w := w) hR)
      have e1 : (sh.toList == [48, 48, 48, 48, 48]) = false := by simpa using h
      clear h hR
      go_enter Tryz.func20, Tryz.ntmps20
      go_wp2_with (go_at_call 40; refine (HS.out _).mono ?_; rintro e w' ⟨rfl, rfl⟩)
      go_ret2
      exact FIN.out
  by_cases h3 : c = 3
  · subst h3
    by_cases h : sh.toList = [48, 48, 48, 48]
    · rw [if_pos (.inr (.inr ⟨rfl, h⟩))] at hR
      have FIN := Lib.hid (ref_yes (w := w) hR)
      have e1 : (sh.toList == [48, 48, 48, 48]) = true := by rw [h]; rfl
      clear h hR
      go_enter Tryz.func20, Tryz.ntmps20
      go_wp2_with (go_at_call 40; refine (HS.out _).mono ?_; rintro e w' ⟨rfl, rfl⟩)
      go_ret2
      exact FIN.out
    · rw [if_neg (by rintro (⟨h', _⟩ | ⟨h', _⟩ | ⟨_, h'⟩) <;> first | exact h h' | omega), if_neg (by omega)] at hR
      have FIN := Lib.hid (ref_no (w := w) hR)
      have e1 : (sh.toList == [48, 48, 48, 48]) = false := by simpa using h
      clear h hR
      go_enter Tryz.func20, Tryz.ntmps20
      go_wp2_with (go_at_call 40; refine (HS.out _).mono ?_; rintro e w' ⟨rfl, rfl⟩)
      go_ret2
      exact FIN.out
  by_cases h2 : c = 2
  · subst h2
    by_cases h : sh.toList = [65, 48, 65, 48, 65, 48]
    · rw [if_pos (.inr (.inl ⟨rfl, h⟩))] at hR
      have FIN := Lib.hid (ref_yes (w := w) hR)
      have e1 : (sh.toList == [65, 48, 65, 48, 65, 48]) = true := by rw [h]; rfl
      clear h hR
      go_enter Tryz.func20, Tryz.ntmps20
      go_wp2_with (go_at_call 40; refine (HS.out _).mono ?_; rintro e w' ⟨rfl, rfl⟩)
      go_ret2
      exact FIN.out
    · rw [if_neg (by rintro (⟨h', _⟩ | ⟨_, h'⟩ | ⟨h', _⟩) <;> first | exact h h' | omega)] at hR
      have e1 : (sh.toList == [65, 48, 65, 48, 65, 48]) = false := by simpa using h
      clear h
      by_cases h7 : s.size = 7
      · have e7 : ((s.size : Int) == 7) = true := by simp [h7]
        have hle : s.size ≤ 7 := by omega
        have hge : 7 ≤ s.size := by omega
        by_cases h : sh.toList = [65, 48, 65, 32, 48, 65, 48]
        · rw [if_pos ⟨rfl, h7, h⟩] at hR
          have FIN : Hid (∀ W', Below w.heap.size w W' → CodePost' 2 s.data.toList w (.returned (.tuple #[.string (s.extract 0 3 ++ s.extract 4 s.size), .bool true])) W') := Lib.hid (fun W' hb => ⟨_, by rw [hR, ext_3], by rw [hR], hb⟩)
          have e2 : (sh.toList == [65, 48, 65, 32, 48, 65, 48]) = true := by rw [h]; rfl
          have z1 : (s.extract 0 3).size ≤ 3 := by rw [ByteArray.size_extract]; omega
          have z2 : (s.extract 4 s.size).size ≤ 3 := by rw [ByteArray.size_extract]; omega
          clear h hR h7
          go_enter Tryz.func20, Tryz.ntmps20
          go_wp2_with (go_at_call 40; refine (HS.out _).mono ?_; rintro e w' ⟨rfl, rfl⟩)
          go_region
          go_wp2_with fail
          go_ret2
          exact FIN.out _ (Below.refl _ _).drew
        · rw [if_neg (fun x => h x.2.2)] at hR
          have FIN := Lib.hid (ref_no (w := w) hR)
          have e2 : (sh.toList == [65, 48, 65, 32, 48, 65, 48]) = false := by simpa using h
          clear h hR h7
          go_enter Tryz.func20, Tryz.ntmps20
          go_wp2_with (go_at_call 40; refine (HS.out _).mono ?_; rintro e w' ⟨rfl, rfl⟩)
          go_ret2
          exact FIN.out
      · have e7 : ((s.size : Int) == 7) = false := by simp; omega
        rw [if_neg (fun x => h7 x.2.1)] at hR
        have FIN := Lib.hid (ref_no (w := w) hR)
        clear hR
        go_enter Tryz.func20, Tryz.ntmps20
        go_wp2_with (go_at_call 40; refine (HS.out _).mono ?_; rintro e w' ⟨rfl, rfl⟩)
        go_ret2
        exact FIN.out
  · rw [if_neg (by rintro (⟨h', _⟩ | ⟨h', _⟩ | ⟨h', _⟩) <;> first | exact h1 h' | exact h2 h' | exact h3 h'), if_neg (fun x => h2 x.1)] at hR
    have FIN := Lib.hid (ref_no (w := w) hR)
    have q1 : (c == 1) = false := by simpa using h1
    have q2 : (c == 2) = false := by simpa using h2
    have q3 : (c == 3) = false := by simpa using h3
    clear hR h1 h2 h3
    go_enter Tryz.func20, Tryz.ntmps20
    go_wp2_with (go_at_call 40; refine (HS.out _).mono ?_; rintro e w' ⟨rfl, rfl⟩)
    go_ret2
    exact FIN.out
theorem word_any (c : Int) (s : ByteArray) (w : World) (hs : s.size ≤ 60000) : Calls Tryz.prog 5 #[.int .u8 c, .string s] w fun e w' => e = .returned (.bool true) ∧ Below w.heap.size w w' := by
  have hsm : s.size ≤ maxLen := by unfold maxLen; omega
  obtain ⟨t1, ht1, hn1⟩ : ∃ t : ByteArray, t.data.toList = (numR s).2.1 ∧ ∀ W, Calls Tryz.prog 17 #[.string s] W fun e w' => e = .returned (.tuple #[.int .i64 (numR s).1, .string t, .bool (numR s).2.2]) ∧ Below W.heap.size W w' :=
    ⟨⟨(numR s).2.1.toArray⟩, rfl, fun W => number_ev (rfl : numR s = ((numR s).1, (numR s).2.1, (numR s).2.2)) hsm W⟩
  have hnn : ∀ W, Calls Tryz.prog 18 #[.string s] W fun e w' => e = .returned (.tuple #[.int .i64 (numR s).1, .string t1, .bool (numR s).2.2]) ∧ Below W.heap.size W w' := fun W => by
    refine (refNumber_any s W hs).mono ?_
    rintro e w' ⟨t, ht, rfl, hb⟩
    have er : refNumR s.data.toList = numR s := by rw [ref_num, sizes]
    rw [er] at ht ⊢
    exact ⟨by rw [show t = t1 from WideShapes.bytes_inj (by rw [ht, ht1])], hb⟩
  obtain ⟨t2, ht2, hc1⟩ : ∃ t : ByteArray, t.data.toList = (codeR c s).1 ∧ ∀ W, Calls Tryz.prog 19 #[.int .u8 c, .string s] W fun e w' => e = .returned (.tuple #[.string t, .bool (codeR c s).2]) ∧ Below W.heap.size W w' :=
    ⟨⟨(codeR c s).1.toArray⟩, rfl, fun W => code_ev (rfl : codeR c s = ((codeR c s).1, (codeR c s).2)) hsm W⟩
  have hcc : ∀ W, Calls Tryz.prog 20 #[.int .u8 c, .string s] W fun e w' => e = .returned (.tuple #[.string t2, .bool (codeR c s).2]) ∧ Below W.heap.size W w' := fun W => by
    refine (refCode_any c s W hs).mono ?_
    rintro e w' ⟨t, ht, rfl, hb⟩
    rw [ref_code] at ht ⊢
    exact ⟨by rw [show t = t2 from WideShapes.bytes_inj (by rw [ht, ht2])], hb⟩
  have hk1 := fun W => classes_any s W hsm
  have hk2 := fun W => refClasses_any s W hs
  generalize (numR s).1 = n at hn1 hnn
  generalize (numR s).2.2 = b1 at hn1 hnn
  generalize (codeR c s).2 = b2 at hc1 hcc
  generalize classesB s = k at hk1 hk2
  have H1 := Lib.hid hn1
  have H2 := Lib.hid hnn
  have H3 := Lib.hid hc1
  have H4 := Lib.hid hcc
  have H5 := Lib.hid hk1
  have H6 := Lib.hid hk2
  clear hn1 hnn hc1 hcc hk1 hk2 ht1 ht2
  have hB : Below w.heap.size w w := Below.refl _ _
  cases b1 <;> cases b2
  all_goals
    go_enter Tryz.func5, Tryz.ntmps5
    go_wp2_with (first
      | (go_at_call 17; refine (H1.out _).mono ?_; rintro e w' ⟨rfl, hb'⟩; replace hB := hB.trans (hb'.mono hB.size); clear hb')
      | (go_at_call 18; refine (H2.out _).mono ?_; rintro e w' ⟨rfl, hb'⟩; replace hB := hB.trans (hb'.mono hB.size); clear hb')
      | (go_at_call 19; refine (H3.out _).mono ?_; rintro e w' ⟨rfl, hb'⟩; replace hB := hB.trans (hb'.mono hB.size); clear hb')
      | (go_at_call 20; refine (H4.out _).mono ?_; rintro e w' ⟨rfl, hb'⟩; replace hB := hB.trans (hb'.mono hB.size); clear hb')
      | (go_at_call 21; refine (H5.out _).mono ?_; rintro e w' ⟨rfl, hb'⟩; replace hB := hB.trans (hb'.mono hB.size); clear hb')
      | (go_at_call 22; refine (H6.out _).mono ?_; rintro e w' ⟨rfl, hb'⟩; replace hB := hB.trans (hb'.mono hB.size); clear hb'))
    go_ret
    exact ⟨rfl, hB⟩
theorem cell0 {w wr : World} {m : Int} (h0 : 4 < w.heap.size) (hm : w.cell? ⟨4, 0, none⟩ = some (.int .i64 m)) (hB : Below w.heap.size w wr) : wr.cell? ⟨4, 0, none⟩ = some (.int .i64 m) ∧ 4 < wr.heap.size :=
  ⟨(hB.cell (p := ⟨4, 0, none⟩) h0).trans hm, Nat.lt_of_lt_of_le h0 hB.size⟩
end Go.Proofs.YtdcpmnkebhilpaaGreatDoor
