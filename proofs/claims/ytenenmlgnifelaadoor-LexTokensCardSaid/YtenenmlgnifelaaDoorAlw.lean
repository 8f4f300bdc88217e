/-
  The walk of letterbaglaw08.LexAlone.
-/
import Derived.Test.YtenenmlgnifelaaDoorAl
namespace Go.Proofs.YtenenmlgnifelaaDoor
open Go.RowKit
set_option linter.unusedVariables false
theorem linesR_cases {s : ByteArray} {L : List ByteArray} (h : linesB s = L) : (6 < L.length ∧ linesR s = ([], 5)) ∨ (L.length ≤ 6 ∧ longB L = true ∧ linesR s = ([], 3)) ∨ (L.length ≤ 6 ∧ longB L = false ∧ linesR s = (L, 0)) := by
  unfold linesR
  rw [h]
  by_cases h6 : 6 < L.length
  · left; exact ⟨h6, by rw [if_pos h6]⟩
  · right
    cases hl : longB L
    · right; exact ⟨by omega, rfl, by rw [if_neg h6]; rfl⟩
    · left; exact ⟨by omega, rfl, by rw [if_neg h6]; rfl⟩
theorem lines_ev {s : ByteArray} {R : List ByteArray} {n : Int} (h : linesR s = (R, n)) (hs : s.size ≤ 60000) (W : World) :
    Calls Tryd.prog 24 #[.string s] W fun e w' => ∃ v, e = .returned (.tuple #[v, .int .i64 n]) ∧ Below W.heap.size W w' ∧ w'.ownsRow W.heap.size 9 1 v R.length (R.map Value.string) := by
  have := lines_any s W hs
  rw [h] at this
  exact this
theorem slice_of_row {W : World} {base : Nat} {v : Value} {R : List ByteArray} (h : W.ownsRow base 9 1 v R.length (R.map Value.string)) : ∃ a cap, v = .slice a R.length cap := by
  rcases Joins.ownsRow_forms h with ⟨rfl, hp⟩ | ⟨g, cap, rfl⟩
  · exact ⟨none, 0, by rw [hp]⟩
  · exact ⟨_, cap, rfl⟩
theorem longTo_succ (L : List ByteArray) (k : Nat) (h : k < L.length) : longB (L.take (k + 1)) = (longB (L.take k) || decide (60 < L[k].size)) := by
  unfold longB
  rw [List.take_succ_eq_append_getElem h, List.any_append]
  simp
theorem row_reads {W : World} {base n : Nat} {va : Option Addr} {vc : Nat} {L : List ByteArray} (h : W.ownsRow base 9 1 (.slice va L.length vc) L.length (L.map Value.string)) (h0 : 0 < L.length) : ∃ g off, va = some ⟨g, off, none⟩ ∧ ∀ k (hk : k < L.length), W.cell? ⟨g, off + k, none⟩ = some (.string L[k]) := by
  obtain ⟨a, cap, e, hc⟩ := ReadsT.of_row h
  obtain ⟨g, off, rfl, _, hcc⟩ := hc h0
  injection e with e1
  exact ⟨g, off, e1, hcc⟩
set_option maxRecDepth 100000 in
set_option maxHeartbeats 8000000 in
theorem lexAlone_walk (ls : List ByteArray) (v : Value) (m : Int) (w : World) (hr : ReadsC w v ls) (hl : ls.length ≤ maxLen) (hsz : ∀ s ∈ ls, s.size ≤ maxLen) (h0 : 0 < w.heap.size) (hm : w.cell? ⟨0, 0, none⟩ = some (.int .i64 m)) :
    Calls Tryd.prog 7 #[v] w fun e w' => e = .returned (.bool true) ∧ Below w.heap.size w w' := by
  have HM := Lib.hid hm
  have HR := Lib.hid hr
  have HZ := Lib.hid hsz
  clear hm hr hsz
  cases hf : fewB ls
  · have HF := Lib.hid hf
    clear hf
    go_enter Tryd.func7, Tryd.ntmps7
    go_wp2_with (first
      | (go_at_call 11; refine (awake_any m _ h0 HM.out).mono ?_; rintro e w1 ⟨rfl, hB⟩)
      | (go_at_call 10; refine (few_any ls _ _ (HR.out.below hB).reads hl HZ.out).mono ?_; rintro e w2 ⟨rfl, rfl⟩; rw [HF.out]))
    go_ret
    exact ⟨rfl, hB⟩
  · have hparts : (∀ s ∈ ls, s.size ≤ 1000) ∧ ls.length ≤ 20 := by
      unfold fewB at hf
      rw [Bool.and_eq_true, List.all_eq_true] at hf
      exact ⟨fun s hs => by simpa using hf.1 s hs, by simpa using hf.2⟩
    obtain ⟨hz1, hl20⟩ := hparts
    have HZ1 := Lib.hid hz1
    have HF := Lib.hid hf
    clear hf hz1
    obtain ⟨i0, hi⟩ := info_parts Tryd.infoS
    have HI := Lib.hid hi
    clear hi
    obtain ⟨a, cap, rfl, hcap, hcells⟩ := id HR.out
    have HC := Lib.hid hcells
    clear hcells
    go_enter Tryd.func7, Tryd.ntmps7
    go_wp2_with (first
      | (go_at_call 11; refine (awake_any m _ h0 HM.out).mono ?_; rintro e w1 ⟨rfl, hB⟩)
      | (go_at_call 10; refine (few_any ls _ _ (HR.out.below hB).reads hl HZ.out).mono ?_; rintro e w2 ⟨rfl, rfl⟩; rw [HF.out]))
    go_loopw [3, 4] (fun u i wr => ∃ k : Nat, k ≤ ls.length ∧ i = .int .i64 k ∧ Hid (∀ j (h : j < ls.length), j < k → (10 : UInt8) ∉ ls[j].data.toList) ∧ Below w.heap.size w wr ∧
        wr.ownsRow w.heap.size 9 1 u (linesOf (wl (ls.take k))).length ((linesOf (wl (ls.take k))).map Value.string)) (fun _ i _ => ls.length - (intOf i).toNat)
    case atStart => exact ⟨0, Nat.zero_le _, rfl, fun j h h' => by omega, hB, World.ownsRow_nil _ _ _ _⟩
    case round =>
      clear hB
      obtain ⟨k, hk, rfl, ha, hB, hown⟩ := hrel
      by_cases hlt : k < ls.length
      · obtain ⟨g, off, rfl, hg, hc⟩ := HC.out (by omega)
        have c1 : wr.cell? ⟨g, off + k, none⟩ = some (.string ls[k]) := (hB.cell (p := ⟨g, off + k, none⟩) hg).trans (hc k hlt)
        have hpz := HZ1.out _ (List.getElem_mem hlt)
        have hmore := linesOf_more (wl (ls.take k)) ls[k]
        rw [← take_more ls k hlt] at hmore
        have hll : (linesOf (wl (ls.take k))).length ≤ 20 := by
          refine Nat.le_trans (linesOf_len _) ?_
          unfold wl
          rw [List.length_map, List.length_take]
          omega
        have hfl := foldL_len ls[k] hpz
        generalize linesOf (wl (ls.take k)) = L at hown hmore hll
        have HMORE := Lib.hid hmore
        clear hmore hc HC
        generalize hp : ls[k] = p at c1 hpz HMORE hfl
        have HP := Lib.hid hp
        clear hp
        by_cases h10 : (10 : UInt8) ∈ p.data.toList
        · have hct : ∀ W, Calls Tryd.prog 22 #[.string p, .string ⟨#[10]⟩] W fun e w' => e = .returned (.bool true) ∧ W = w' := fun W => by
            have := contains_ev p W
            rw [decide_eq_true h10] at this
            exact this
          have HCT := Lib.hid hct
          clear hct h10
          go_wp2_with (go_at_call 22; refine (HCT.out _).mono ?_; rintro e w2 ⟨rfl, rfl⟩)
          go_ret
          exact ⟨rfl, hB⟩
        · have hct : ∀ W, Calls Tryd.prog 22 #[.string p, .string ⟨#[10]⟩] W fun e w' => e = .returned (.bool false) ∧ W = w' := fun W => by
            have := contains_ev p W
            rw [decide_eq_false h10] at this
            exact this
          have HCT := Lib.hid hct
          have hnext : ∀ j (h : j < ls.length), j < k + 1 → (10 : UInt8) ∉ ls[j].data.toList := fun j h hj => by
            by_cases e : j = k
            · subst e; rw [HP.out]; exact h10
            · exact ha j h (by omega)
          have HN := Lib.hid hnext
          clear hct h10 hnext
          obtain ⟨q, hq⟩ : ∃ q : ByteArray, q.data.toList = foldL p := ⟨⟨(foldL p).toArray⟩, rfl⟩
          have hqs : q.size = (foldL p).length := by rw [← hq]; simp
          have hfd : ∀ W, Calls Tryd.prog 23 #[.string p] W fun e w' => e = .returned (.string q) ∧ Below W.heap.size W w' := fun W => by
            refine (fold_any p W (by omega)).mono ?_
            rintro e w' ⟨rfl, hb⟩
            exact ⟨by rw [show (⟨(foldL p).toArray⟩ : ByteArray) = q from WideShapes.bytes_inj (by rw [hq])], hb⟩
          have HFD := Lib.hid hfd
          clear hfd
          rw [← hqs, show (⟨(foldL p).toArray⟩ : ByteArray) = q from WideShapes.bytes_inj (by rw [hq])] at HMORE
          by_cases hq0 : 0 < q.size
          · obtain ⟨e1, e2⟩ := ne_of_pos hq0
            rw [if_pos hq0] at HMORE
            clear hq
            go_wp2_with (first
              | (go_at_call 22; refine (HCT.out _).mono ?_; rintro e w2 ⟨rfl, rfl⟩)
              | (go_at_call 23; refine (HFD.out _).mono ?_; rintro e w3 ⟨rfl, hb3⟩; replace hown := hown.kept (grown_none hb3) (Classical.em _); replace hB := hB.trans (hb3.mono hB.size); clear hb3)
              | (at_builtin; refine wpList_append_own _ rfl _ _ 22 rfl w.heap.size 9 i0 (.string ⟨#[]⟩) 1 16 Tryd.underlying22 HI.out.1 HI.out.2.1 HI.out.2.2.1 HI.out.2.2.2 rfl (by decide) _ _ _ rfl (hown.alloc _) ⟨w3.heap.size, 0, none⟩ 1 1 [.string q] rfl rfl (cell_one_new _ _ _) (by simp [Value.oneCell']) (by unfold maxLen; omega) (by omega) (by have := hB.size; simp; omega) ?_; intro v' w4 hown' hgrow _; have hb1 : Below w.heap.size w w4 := (hB.alloc hB.size _).grown hgrow (by have := hB.size; simp; omega) (fun r e => (hown.lt r e).1); clear hown hgrow))
            go_roundw
            case rel => exact ⟨k + 1, by omega, by go_num, HN, hb1, by rw [HMORE.out]; simpa using hown'⟩
            case measure => simp [intOf]; omega
          · obtain ⟨e1, e2⟩ := eq_of_not_pos hq0
            rw [if_neg hq0] at HMORE
            clear hq
            go_wp2_with (first
              | (go_at_call 22; refine (HCT.out _).mono ?_; rintro e w2 ⟨rfl, rfl⟩)
              | (go_at_call 23; refine (HFD.out _).mono ?_; rintro e w3 ⟨rfl, hb3⟩; replace hown := hown.kept (grown_none hb3) (Classical.em _); replace hB := hB.trans (hb3.mono hB.size); clear hb3))
            go_roundw
            case rel => exact ⟨k + 1, by omega, by go_num, HN, hB, by rw [HMORE.out]; simpa using hown⟩
            case measure => simp [intOf]; omega
      · obtain rfl : k = ls.length := by omega
        rw [List.take_length] at hown
        obtain ⟨jn, hj, hjs, hjc⟩ := join_ev ls HZ1.out hl20
        have hlb : linesB jn = linesOf (wl ls) := by
          rw [← lines_join (wl ls) (fun p hp => by
            obtain ⟨b, hb, rfl⟩ := List.mem_map.1 hp
            obtain ⟨j, hjj, rfl⟩ := List.mem_iff_getElem.1 hb
            exact ha j hjj hjj), show jn = ⟨(joinN (wl ls)).toArray⟩ from WideShapes.bytes_inj (by rw [hj])]
        have hll : (linesOf (wl ls)).length ≤ 20 := Nat.le_trans (linesOf_len _) (by unfold wl; rw [List.length_map]; exact hl20)
        have hsz2 : ∀ b ∈ linesOf (wl ls), b.size ≤ 60000 := fun b hb => by
          unfold linesOf at hb
          rw [List.mem_filter, List.mem_map] at hb
          obtain ⟨⟨l, hl', rfl⟩, _⟩ := hb
          obtain ⟨c, hc, rfl⟩ := List.mem_map.1 hl'
          have h1 := HZ1.out c hc
          have h2 := foldL_len ⟨c.data.toList.toArray⟩ (by rw [show (⟨c.data.toList.toArray⟩ : ByteArray) = c from WideShapes.bytes_inj rfl]; exact h1)
          show (foldL ⟨c.data.toList.toArray⟩).toArray.size ≤ 60000
          simp only [List.size_toArray]
          omega
        generalize linesOf (wl ls) = L at hown hlb hll hsz2
        have hcs := linesR_cases hlb
        have HJ := Lib.hid hjc
        have HSZ := Lib.hid hsz2
        clear hjc hj hlb ha hsz2
        obtain ⟨va, vc, rfl⟩ := slice_of_row hown
        rcases hcs with ⟨h6, hR⟩ | ⟨h6, hlg, hR⟩ | ⟨h6, hlg, hR⟩
        all_goals
          have HLR := Lib.hid hR
          clear hR
        all_goals
          go_wp2_with (first
            | (go_at_call 25; refine (HJ.out _ _ (HR.out.below hB)).mono ?_; rintro e w3 ⟨rfl, hb3⟩; replace hown := hown.kept (grown_none hb3) (Classical.em _); replace hB := hB.trans (hb3.mono hB.size); clear hb3)
            | (go_at_call 24; refine (lines_ev HLR.out hjs _).mono ?_; rintro e w4 ⟨gv, rfl, hb4, hgot⟩; obtain ⟨ga, gc, rfl⟩ := slice_of_row hgot; replace hown := hown.kept (grown_none hb4) (Classical.em _); replace hB := hB.trans (hb4.mono hB.size); clear hb4))
        all_goals
          have HRD : Hid (0 < L.length → ∃ g off, va = some ⟨g, off, none⟩ ∧ ∀ k (hk : k < L.length), w4.cell? ⟨g, off + k, none⟩ = some (.string L[k])) := Lib.hid (row_reads (n := 0) hown)
          go_loop [8, 9] (fun lg i => ∃ k : Nat, k ≤ L.length ∧ i = .int .i64 k ∧ lg = .bool (longB (L.take k))) (fun _ i => L.length - (intOf i).toNat)
          case atStart => exact ⟨0, Nat.zero_le _, rfl, rfl⟩
          case round =>
            obtain ⟨k, hk, rfl, rfl⟩ := hrel
            by_cases hlt : k < L.length
            · obtain ⟨g, off, rfl, hc⟩ := HRD.out (by omega)
              have c1 := hc k hlt
              have hz := HSZ.out _ (List.getElem_mem hlt)
              have hsu := longTo_succ L k hlt
              have HSU := Lib.hid hsu
              clear hc hsu HRD
              generalize L[k] = x at c1 hz HSU
              cases hlk : longB (L.take k)
              all_goals
                rw [hlk] at HSU
                clear hlk
                go_wp2_with fail
                all_goals
                  go_round
                  case rel => exact ⟨k + 1, by omega, by go_num, congrArg Value.bool (by rw [HSU.out]; first | rfl | (simp; done) | (rw [Bool.eq_iff_iff]; simp; done) | (rw [Bool.eq_iff_iff]; simp; omega))⟩
                  case measure => simp [intOf]; omega
            · obtain rfl : k = L.length := by omega
              rw [List.take_length]
              try rw [hlg]
              go_wp2_with (go_at_call 26; refine (sameTexts_any L L _ _ _ (ReadsT.of_row hgot) (ReadsT.of_row hown) (by omega) (by omega)).mono ?_; rintro e w5 ⟨rfl, hb5⟩; rw [decide_eq_true rfl]; replace hB := hB.trans (hb5.mono hB.size); clear hb5)
              all_goals
                go_ret
                exact ⟨rfl, hB⟩
end Go.Proofs.YtenenmlgnifelaaDoor
