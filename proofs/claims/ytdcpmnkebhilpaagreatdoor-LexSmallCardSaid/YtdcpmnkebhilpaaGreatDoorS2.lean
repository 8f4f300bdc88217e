/-
  letterbagref08.Lines: what lex.Lines returns; letterbaglaw08.lines.
-/
import Derived.Test.YtdcpmnkebhilpaaGreatDoorS1
import Derived.Test.YtdcpmnkebhilpaaGreatDoorAlw
namespace Go.Proofs.YtdcpmnkebhilpaaGreatDoor
open Go.RowKit Go.Shelf
attribute [local go_sem] Oper.semAt_some
set_option linter.unusedVariables false
set_option maxRecDepth 100000
/-- The parts of a text ahead of its byte k. -/
def AtK (s : ByteArray) (f k : Nat) (P : List (List UInt8)) : Prop :=
  (k ≤ s.size ∧ Met s.data.toList f k P) ∨ (k = s.size + 1 ∧ splitL s.data.toList = P)
theorem ext_toL (r : ByteArray) (a b : Nat) : (r.extract a b).data.toList = (r.data.toList.drop a).take (b - a) := by
  rw [ByteArray.data_extract, Array.toList_extract, List.extract_eq_take_drop]
theorem toL_len (s : ByteArray) : s.data.toList.length = s.size := by simp
theorem atK_end {s : ByteArray} {f : Nat} {P : List (List UInt8)} (h : AtK s f s.size P) : AtK s (s.size + 1) (s.size + 1) (P ++ [(s.extract f s.size).data.toList]) := by
  rcases h with ⟨_, h⟩ | ⟨h, _⟩
  · refine .inr ⟨rfl, ?_⟩
    have hl := toL_len s
    rw [← hl] at h
    unfold splitL
    rw [h.last, ext_toL, ← hl]
    congr 2
    rw [List.take_of_length_le (by rw [List.length_drop]; omega)]
  · omega
theorem atK_part {s : ByteArray} {f k : Nat} {P : List (List UInt8)} (h : AtK s f k P) (hk : k < s.size) (h10 : s[k] = 10) : AtK s (k + 1) (k + 1) (P ++ [(s.extract f k).data.toList]) := by
  rcases h with ⟨_, h⟩ | ⟨h, _⟩
  · refine .inl ⟨by omega, ?_⟩
    rw [ext_toL]
    refine h.part ?_
    rw [List.getElem?_eq_getElem (by rw [toL_len]; exact hk)]
    exact congrArg some h10
  · omega
theorem atK_next {s : ByteArray} {f k : Nat} {P : List (List UInt8)} (h : AtK s f k P) (hk : k < s.size) (h10 : s[k] ≠ 10) : AtK s f (k + 1) P := by
  rcases h with ⟨_, h⟩ | ⟨h, _⟩
  · refine .inl ⟨by omega, h.next ?_⟩
    rw [List.getElem?_eq_getElem (by rw [toL_len]; exact hk)]
    exact fun e => h10 (Option.some.inj e)
  · omega
theorem atK_last {s : ByteArray} {f : Nat} {P : List (List UInt8)} (h : AtK s f (s.size + 1) P) : linesB s = linesOf P := by
  rcases h with ⟨h, _⟩ | ⟨_, h⟩
  · omega
  · unfold linesB; rw [h]
def RLinesPost (s : ByteArray) (w : World) (e : Ending) (w' : World) : Prop :=
  ∃ v, e = .returned (.tuple #[v, .int .i64 (linesR s).2]) ∧ Below w.heap.size w w' ∧ w'.ownsRow w.heap.size 9 1 v (linesR s).1.length ((linesR s).1.map Value.string)
theorem rlines_err {s : ByteArray} {n : Int} {w w' : World} (h : linesR s = ([], n)) (hb : Below w.heap.size w w') : RLinesPost s w (.returned (.tuple #[.slice none 0 0, .int .i64 n])) w' := by
  unfold RLinesPost
  rw [h]
  exact ⟨_, rfl, hb, World.ownsRow_nil _ _ _ _⟩
theorem rlines_ok {s : ByteArray} {L : List ByteArray} {v : Value} {w w' : World} (h : linesR s = (L, 0)) (hb : Below w.heap.size w w') (ho : w'.ownsRow w.heap.size 9 1 v L.length (L.map Value.string)) : RLinesPost s w (.returned (.tuple #[v, .int .i64 0])) w' := by
  unfold RLinesPost
  rw [h]
  exact ⟨_, rfl, hb, ho⟩
set_option maxHeartbeats 16000000 in
theorem refLines_any (s : ByteArray) (w : World) (hs : s.size ≤ 20000) : Calls Tryz.prog 26 #[.string s] w (RLinesPost s w) := by
  obtain ⟨i0, hi⟩ := info_parts Tryz.infoS
  have HI := Lib.hid hi
  have HC := Lib.hid (linesR_cases (s := s) rfl)
  clear hi
  go_enter Tryz.func26, Tryz.ntmps26
  go_wp2_with fail
  go_loopw [4, 5, 6] (fun o f i wr => ∃ (k f' : Nat) (P : List (List UInt8)), k ≤ s.size + 1 ∧ f' ≤ k ∧ (linesOf P).length ≤ k ∧ i = .int .i64 k ∧ f = .int .i64 f' ∧ Hid (AtK s f' k P) ∧ Below w.heap.size w wr ∧ wr.ownsRow w.heap.size 9 1 o (linesOf P).length ((linesOf P).map Value.string)) (fun _ _ i _ => s.size + 1 - (intOf i).toNat)
  case atStart => exact ⟨0, 0, [], Nat.zero_le _, Nat.le_refl _, Nat.le_refl _, rfl, rfl, .inl ⟨Nat.zero_le _, Met.start _⟩, Below.refl _ _, World.ownsRow_nil _ _ _ _⟩
  case round =>
    obtain ⟨k, f, P, hk, hfk, hPl, rfl, rfl, HAT, hB, hown⟩ := hrel
    by_cases hlt : k ≤ s.size
    · have hpart : ∀ (Q : ByteArray), Q = s.extract f k → Hid (AtK s (k + 1) (k + 1) (P ++ [Q.data.toList])) → ∃ q : ByteArray, Hid (∀ W, Calls Tryz.prog 61 #[.string Q] W fun e w' => e = .returned (.string q) ∧ Below W.heap.size W w') ∧ Hid (linesOf (P ++ [Q.data.toList]) = linesOf P ++ (if 0 < q.size then [q] else [])) := by
        intro Q hQ hn
        refine ⟨⟨(foldL Q).toArray⟩, fun W => refFold_any Q W (by rw [hQ, ByteArray.size_extract]; omega), ?_⟩
        show _ = _
        rw [linesOf_more, show (⟨(foldL Q).toArray⟩ : ByteArray).size = (foldL Q).length by show (foldL Q).toArray.size = _; simp]
      have HP := Lib.hid hpart
      clear hpart
      by_cases heq : k = s.size
      · subst heq
        obtain ⟨Q, hQ⟩ : ∃ Q, Q = s.extract f s.size := ⟨_, rfl⟩
        have HN : Hid (AtK s (s.size + 1) (s.size + 1) (P ++ [Q.data.toList])) := by rw [hQ]; exact atK_end HAT.out
        obtain ⟨q, HF, HM⟩ := HP.out Q hQ HN
        have HQ : Hid (s.extract f s.size = Q) := hQ.symm
        have he : ((s.size : Int) == (s.size : Int)) = true := by simp
        clear hQ HP
        by_cases hq0 : 0 < q.size
        · obtain ⟨e1, e2⟩ := ne_of_pos hq0
          rw [if_pos hq0] at HM
          go_wp2_with (first
            | (go_at_call 61; rw [HQ.out]; refine (HF.out _).mono ?_; rintro e w3 ⟨rfl, hb3⟩; replace hown := hown.kept (grown_none hb3) (Classical.em _); replace hB := hB.trans (hb3.mono hB.size); clear hb3)
            | (at_builtin; refine wpList_append_own _ rfl _ _ 26 rfl w.heap.size 9 i0 (.string ⟨#[]⟩) 1 16 Tryz.underlying26 HI.out.1 HI.out.2.1 HI.out.2.2.1 HI.out.2.2.2 rfl (by decide) _ _ _ rfl (hown.alloc _) ⟨w3.heap.size, 0, none⟩ 1 1 [.string q] rfl rfl (cell_one_new _ _ _) (by simp [Value.oneCell']) (by unfold maxLen; omega) (by omega) (by have := hB.size; simp; omega) ?_; intro v' w4 hown' hgrow _; have hb1 : Below w.heap.size w w4 := (hB.alloc hB.size _).grown hgrow (by have := hB.size; simp; omega) (fun r e => (hown.lt r e).1); clear hown hgrow))
          go_roundw
          case rel => exact ⟨s.size + 1, s.size + 1, _, Nat.le_refl _, Nat.le_refl _, by rw [HM.out, List.length_append]; simp <;> omega, by go_num, by go_num, HN, hb1, by rw [HM.out]; simpa using hown'⟩
          case measure => simp [intOf] <;> omega
        · obtain ⟨e1, e2⟩ := eq_of_not_pos hq0
          rw [if_neg hq0] at HM
          go_wp2_with (go_at_call 61; rw [HQ.out]; refine (HF.out _).mono ?_; rintro e w3 ⟨rfl, hb3⟩; replace hown := hown.kept (grown_none hb3) (Classical.em _); replace hB := hB.trans (hb3.mono hB.size); clear hb3)
          go_roundw
          case rel => exact ⟨s.size + 1, s.size + 1, _, Nat.le_refl _, Nat.le_refl _, by rw [HM.out, List.length_append]; simp <;> omega, by go_num, by go_num, HN, hB, by rw [HM.out]; simpa using hown⟩
          case measure => simp [intOf] <;> omega
      · have hk2 : k < s.size := by omega
        have he : ((k : Int) == (s.size : Int)) = false := by simp <;> omega
        have heq10 := u8_int s[k] 10 10 rfl
        by_cases h10 : s[k] = 10
        · rw [decide_eq_true h10] at heq10
          obtain ⟨Q, hQ⟩ : ∃ Q, Q = s.extract f k := ⟨_, rfl⟩
          have HN : Hid (AtK s (k + 1) (k + 1) (P ++ [Q.data.toList])) := by rw [hQ]; exact atK_part HAT.out hk2 h10
          obtain ⟨q, HF, HM⟩ := HP.out Q hQ HN
          have HQ : Hid (s.extract f k = Q) := hQ.symm
          clear hQ HP h10 heq
          by_cases hq0 : 0 < q.size
          · obtain ⟨e1, e2⟩ := ne_of_pos hq0
            rw [if_pos hq0] at HM
            go_wp2_with (first
              | (go_at_call 61; rw [HQ.out]; refine (HF.out _).mono ?_; rintro e w3 ⟨rfl, hb3⟩; replace hown := hown.kept (grown_none hb3) (Classical.em _); replace hB := hB.trans (hb3.mono hB.size); clear hb3)
              | (at_builtin; refine wpList_append_own _ rfl _ _ 26 rfl w.heap.size 9 i0 (.string ⟨#[]⟩) 1 16 Tryz.underlying26 HI.out.1 HI.out.2.1 HI.out.2.2.1 HI.out.2.2.2 rfl (by decide) _ _ _ rfl (hown.alloc _) ⟨w3.heap.size, 0, none⟩ 1 1 [.string q] rfl rfl (cell_one_new _ _ _) (by simp [Value.oneCell']) (by unfold maxLen; omega) (by omega) (by have := hB.size; simp; omega) ?_; intro v' w4 hown' hgrow _; have hb1 : Below w.heap.size w w4 := (hB.alloc hB.size _).grown hgrow (by have := hB.size; simp; omega) (fun r e => (hown.lt r e).1); clear hown hgrow))
            go_roundw
            case rel => exact ⟨k + 1, k + 1, _, by omega, Nat.le_refl _, by rw [HM.out, List.length_append]; simp <;> omega, by go_num, by go_num, HN, hb1, by rw [HM.out]; simpa using hown'⟩
            case measure => simp [intOf]; omega
          · obtain ⟨e1, e2⟩ := eq_of_not_pos hq0
            rw [if_neg hq0] at HM
            go_wp2_with (go_at_call 61; rw [HQ.out]; refine (HF.out _).mono ?_; rintro e w3 ⟨rfl, hb3⟩; replace hown := hown.kept (grown_none hb3) (Classical.em _); replace hB := hB.trans (hb3.mono hB.size); clear hb3)
            go_roundw
            case rel => exact ⟨k + 1, k + 1, _, by omega, Nat.le_refl _, by rw [HM.out, List.length_append]; simp <;> omega, by go_num, by go_num, HN, hB, by rw [HM.out]; simpa using hown⟩
            case measure => simp [intOf]; omega
        · rw [decide_eq_false h10] at heq10
          have HN := Lib.hid (atK_next HAT.out hk2 h10)
          clear h10 heq HP
          go_wp2_with fail
          go_roundw
          case rel => exact ⟨k + 1, f, P, by omega, by omega, by omega, by go_num, rfl, HN, hB, hown⟩
          case measure => simp [intOf]; omega
    · obtain rfl : k = s.size + 1 := by omega
      have HL := Lib.hid (atK_last HAT.out)
      rw [HL.out] at HC
      generalize linesOf P = L at hPl hown HC
      clear HL HAT
      rcases HC.out with ⟨h6, hR⟩ | ⟨h6, hlg, hR⟩ | ⟨h6, hlg, hR⟩
      · have HR := Lib.hid hR
        clear hR HC
        obtain ⟨va, vc, rfl⟩ := slice_of_row hown
        go_wp2_with fail
        go_ret2
        exact rlines_err HR.out hB
      all_goals
        have HR := Lib.hid hR
        have HLG := Lib.hid hlg
        clear hR HC hlg
        obtain ⟨va, vc, rfl⟩ := slice_of_row hown
        have HOW := Lib.hid hown
        go_wp2_with fail
        go_loopw [8] (fun i wr' => ∃ j : Nat, j ≤ L.length ∧ i = .int .i64 j ∧ Hid (longB (L.take j) = false) ∧ wr' = wr) (fun i _ => L.length - (intOf i).toNat)
        case atStart => exact ⟨0, Nat.zero_le _, rfl, rfl, rfl⟩
        case round =>
          obtain ⟨j, hj, rfl, HT, rfl⟩ := hrel
          by_cases hjl : j < L.length
          · obtain ⟨g, off, rfl, hcc⟩ := row_reads (n := 0) HOW.out (by omega)
            have hat := hcc j hjl
            have hls := longTo_succ L j hjl
            rw [HT.out, Bool.false_or] at hls
            generalize L[j] = x at hat hls
            have HLS := Lib.hid hls
            clear hcc hls
            by_cases h60 : 60 < x.size
            · rw [decide_eq_true h60] at HLS
              first
                | (go_wp2_with fail
                   go_ret2
                   exact rlines_err HR.out hB)
                | (exfalso
                   have h1 : longB (L.take (j + 1)) = true := HLS.out
                   have h2 : longB L = false := HLG.out
                   unfold longB at h1 h2
                   rw [List.any_eq_true] at h1
                   obtain ⟨b, hb, hb2⟩ := h1
                   rw [List.any_eq_false] at h2
                   exact h2 b (List.mem_of_mem_take hb) hb2)
            · rw [decide_eq_false h60] at HLS
              go_wp2_with fail
              go_roundw
              case rel => exact ⟨j + 1, by omega, by go_num, HLS, by first | rfl | trivial⟩
              case measure => simp [intOf]; omega
          · obtain rfl : j = L.length := by omega
            have h1 := HT.out
            rw [List.take_length] at h1
            first
              | (exfalso
                 rw [HLG.out] at h1
                 cases h1
                 done)
              | (go_wp2_with fail
                 go_ret2
                 exact rlines_ok HR.out hB HOW.out)
set_option maxHeartbeats 8000000 in
/-- letterbaglaw08.lines is true. -/
theorem lawLines_any (s : ByteArray) (m : Int) (w : World) (hs : s.size ≤ 20000) (h0 : 4 < w.heap.size) (hm : w.cell? ⟨4, 0, none⟩ = some (.int .i64 m)) :
    Calls Tryz.prog 7 #[.string s] w fun e w' => e = .returned (.bool true) ∧ Below w.heap.size w w' := by
  obtain ⟨L, n, hL⟩ : ∃ L n, linesR s = (L, n) := ⟨_, _, rfl⟩
  have hsz : ∀ b ∈ L, b.size ≤ 1000 := by
    intro b hb
    rcases linesR_cases (s := s) rfl with ⟨_, h⟩ | ⟨_, _, h⟩ | ⟨_, hlg, h⟩
    · rw [hL] at h; injection h with h1; rw [h1] at hb; cases hb
    · rw [hL] at h; injection h with h1; rw [h1] at hb; cases hb
    · rw [hL] at h
      injection h with h1
      rw [h1] at hb
      have := List.any_eq_false.1 hlg b hb
      simp at this
      omega
  have hll : L.length ≤ 6 := by
    rcases linesR_cases (s := s) rfl with ⟨_, h⟩ | ⟨_, _, h⟩ | ⟨h6, hlg, h⟩
    · rw [hL] at h; injection h with h1; rw [h1]; simp
    · rw [hL] at h; injection h with h1; rw [h1]; simp
    · rw [hL] at h; injection h with h1; rw [h1]; exact h6
  have h1 : Hid (∀ W, Calls Tryz.prog 25 #[.string s] W fun e w' => ∃ v, e = .returned (.tuple #[v, .int .i64 n]) ∧ Below W.heap.size W w' ∧ w'.ownsRow W.heap.size 9 1 v L.length (L.map Value.string)) := fun W => lines_ev hL (by omega) W
  have h2 : Hid (∀ W, Calls Tryz.prog 26 #[.string s] W fun e w' => ∃ v, e = .returned (.tuple #[v, .int .i64 n]) ∧ Below W.heap.size W w' ∧ w'.ownsRow W.heap.size 9 1 v L.length (L.map Value.string)) := fun W => by
    refine (refLines_any s W (by omega)).mono ?_
    rintro e w' ⟨v, h⟩
    rw [hL] at h
    exact ⟨v, h⟩
  have HM := Lib.hid hm
  have HSZ := Lib.hid hsz
  have hnn : (n == n) = true := by simp
  clear hm hsz hL
  go_enter Tryz.func7, Tryz.ntmps7
  go_wp2_with fail
  refine (h1.out _).mono ?_
  rintro e w1 ⟨va, rfl, hb1, ho1⟩
  obtain ⟨aa, ac, rfl⟩ := slice_of_row ho1
  go_wp2_with fail
  refine (h2.out _).mono ?_
  rintro e w2 ⟨vb, rfl, hb2, ho2⟩
  obtain ⟨ba, bc, rfl⟩ := slice_of_row ho2
  have ho3 := ho1.kept (grown_none hb2) (Classical.em _)
  have hB2 : Hid (Below w.heap.size w w2) := hb1.trans (hb2.mono hb1.size)
  have HS : Hid (Calls Tryz.prog 27 #[.slice aa L.length ac, .slice ba L.length bc] w2 fun e w' => e = .returned (.bool true) ∧ Below w2.heap.size w2 w') := by
    have := sameTexts_any L L _ _ w2 (ReadsT.of_row ho3) (ReadsT.of_row ho2) (by omega) (by omega)
    rw [decide_eq_true rfl] at this
    exact this
  have HO := Lib.hid ho3
  clear hb1 hb2 ho1 ho2 ho3
  go_wp2_with fail
  refine HS.out.mono ?_
  rintro e w3 ⟨rfl, hb3⟩
  have hB3 : Hid (Below w.heap.size w w3) := hB2.out.trans (hb3.mono hB2.out.size)
  have HO3 := Lib.hid (HO.out.kept (grown_none hb3) (Classical.em _))
  clear hb3
  go_wp2_with fail
  refine (lawTokens_any L _ _ m w3 (by omega) HSZ.out (Nat.lt_of_lt_of_le h0 hB3.out.size) ((hB3.out.cell (p := ⟨4, 0, none⟩) h0).trans HM.out) HO3.out).mono ?_
  rintro e w4 ⟨rfl, hb4⟩
  have hB4 : Hid (Below w.heap.size w w4) := hB3.out.trans (hb4.mono hB3.out.size)
  clear hb4
  go_wp2_with fail
  go_ret
  exact ⟨rfl, hB4.out⟩
end Go.Proofs.YtdcpmnkebhilpaaGreatDoor
