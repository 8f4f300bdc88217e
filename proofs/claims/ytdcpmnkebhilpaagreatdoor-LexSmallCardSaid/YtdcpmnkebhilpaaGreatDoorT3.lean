/-
  Contract of the reference's Tokens (letterbagref08).
-/
import Derived.Test.YtdcpmnkebhilpaaGreatDoorT2
import Derived.Deep.DeepCutAuto
namespace Go.Proofs.YtdcpmnkebhilpaaGreatDoor
open Go.RowKit
set_option linter.unusedVariables false
theorem Tryz.infoRT : (Tryz.prog.info? 51).map (fun i => (i.zero, i.size, i.bytes)) = some (some (.agg #[.string ⟨#[]⟩, .int .i64 0, .int .i64 0, .int .u16 0]), 4, 40) := by kernel_rfl
def RTokPost (ls : List ByteArray) (w : World) (e : Ending) (w' : World) : Prop :=
  ∃ v, e = .returned (.tuple #[v, .int .i64 (tokensR ls).2]) ∧ Below w.heap.size w w' ∧ w'.ownsRow w.heap.size 51 4 v (tokensR ls).1.length (toksV (tokensR ls).1)
theorem rtok_err {ls : List ByteArray} {n : Int} {w w' : World} (h : tokensR ls = ([], n)) (hb : Below w.heap.size w w') : RTokPost ls w (.returned (.tuple #[.slice none 0 0, .int .i64 n])) w' :=
  ⟨_, by rw [h], hb, by rw [h]; exact World.ownsRow_nil _ _ _ _⟩
theorem rtok_ok {ls : List ByteArray} {T : List Tok} {v : Value} {w w' : World} (h : tokensR ls = (T, 0)) (hb : Below w.heap.size w w') (ho : w'.ownsRow w.heap.size 51 4 v T.length (toksV T)) : RTokPost ls w (.returned (.tuple #[v, .int .i64 0])) w' :=
  ⟨_, by rw [h], hb, by rw [h]; exact ho⟩
theorem rslice_of_row {W : World} {base : Nat} {v : Value} {T : List Tok} (h : W.ownsRow base 51 4 v T.length (toksV T)) : ∃ a cap, v = .slice a T.length cap := by
  rcases Joins.ownsRow_forms h with ⟨rfl, hp⟩ | ⟨g, cap, rfl⟩
  · exact ⟨none, 0, by rw [hp]⟩
  · exact ⟨_, cap, rfl⟩
theorem tokR_many {ls : List ByteArray} (h : 6 < ls.length) : tokensR ls = ([], 5) := by unfold tokensR; rw [if_pos h]
theorem tokR_long {ls : List ByteArray} (h6 : ls.length ≤ 6) {k : Nat} (hk : k < ls.length) (h : 60 < ls[k].size) : tokensR ls = ([], 3) := by
  have hl : longB ls = true := by unfold longB; rw [List.any_eq_true]; exact ⟨_, List.getElem_mem hk, by simpa using h⟩
  unfold tokensR; rw [if_neg (by omega), hl]; rfl
theorem tokR_bad {ls : List ByteArray} (h6 : ls.length ≤ 6) (h60 : ∀ j (hj : j < ls.length), ls[j].size ≤ 60) {k : Nat} (hk : k < ls.length) (h : badB ls[k] = true) : tokensR ls = ([], 2) := by
  have hb : ls.any badB = true := by rw [List.any_eq_true]; exact ⟨_, List.getElem_mem hk, h⟩
  unfold tokensR; rw [if_neg (by omega), longB_false h60, hb]; rfl
theorem bad_not {s : ByteArray} (h : badB s = false) : 0 < s.size ∧ Normal s.data.toList := by
  unfold badB at h
  rw [Bool.or_eq_false_iff, decide_eq_false_iff_not, Bool.not_eq_false'] at h
  have hf : foldL s = s.data.toList := by simpa using h.2
  exact ⟨by omega, fold_normal hf⟩
theorem tokR_good {ls : List ByteArray} (h6 : ls.length ≤ 6) (h60 : ∀ j (hj : j < ls.length), ls[j].size ≤ 60) (hb : ∀ j (hj : j < ls.length), badB ls[j] = false) : tokensR ls = if 40 < (toksFrom 0 ls).length then ([], 5) else (toksFrom 0 ls, 0) := by
  refine tokensR_good h6 (longB_false h60) (fun b hm => ?_)
  obtain ⟨j, hj, rfl⟩ := List.mem_iff_getElem.1 hm
  exact ⟨(bad_not (hb j hj)).2, (bad_not (hb j hj)).1⟩
theorem toksV_snoc (T : List Tok) (t : Tok) : toksV (T ++ [t]) = toksV T ++ (tokV t).toList := by unfold toksV; simp
theorem spansTo_len (s : ByteArray) (k : Nat) : (spansTo s k).1.length ≤ k ∧ (spansTo s k).2 ≤ k := by
  have := wordsTo_le s k
  rw [spansTo_words] at this
  simp only [List.length_map] at this
  exact ⟨this.2, this.1⟩
set_option maxRecDepth 100000 in
set_option maxHeartbeats 16000000 in
theorem refTokens_any (ls : List ByteArray) (v : Value) (w : World) (hr : ReadsT w v ls) (hl : ls.length ≤ 60000) (hsz : ∀ s ∈ ls, s.size ≤ 1000) : Calls Tryz.prog 24 #[v] w (RTokPost ls w) := by
  obtain ⟨a, cap, rfl, hcl⟩ := hr
  have HC := Lib.hid hcl
  have HZ := Lib.hid hsz
  clear hcl hsz
  by_cases h6 : 6 < ls.length
  · have FIN := Lib.hid (rtok_err (tokR_many h6) (Below.refl w.heap.size w))
    go_enter Tryz.func24, Tryz.ntmps24
    go_wp2_with fail
    go_ret2
    exact FIN.out
  have h6' : ls.length ≤ 6 := by omega
  go_enter Tryz.func24, Tryz.ntmps24
  go_wp2_with fail
  go_loop [4] (fun i => ∃ k : Nat, k ≤ ls.length ∧ i = .int .i64 k ∧ Hid (∀ j, j < k → ∀ hj : j < ls.length, ls[j].size ≤ 60)) (fun i => ls.length - (intOf i).toNat)
  case atStart => exact ⟨0, Nat.zero_le _, rfl, fun j h => by omega⟩
  case round =>
    obtain ⟨k, hk, rfl, ha⟩ := hrel
    by_cases hlt : k < ls.length
    · obtain ⟨g, off, rfl, hg, hc⟩ := HC.out (by omega)
      have c1 := hc k hlt
      have hz := HZ.out _ (List.getElem_mem hlt)
      clear hc HC
      by_cases h60 : 60 < ls[k].size
      · have FIN := Lib.hid (rtok_err (tokR_long h6' hlt h60) (Below.refl w.heap.size w))
        go_wp2_with fail
        go_ret2
        exact FIN.out
      · have hnx := upto_getElem (P := fun b => b.size ≤ 60) hlt ha.out (by show ls[k].size ≤ 60; omega)
        have HNX := Lib.hid hnx
        clear hnx
        go_wp2_with fail
        go_round
        case rel => exact ⟨k + 1, by omega, by go_num, HNX⟩
        case measure => simp [intOf]; omega
    · have h60 : ∀ j (hj : j < ls.length), ls[j].size ≤ 60 := fun j hj => ha j (by omega) hj
      have H60 := Lib.hid h60
      clear h60 ha hk
      go_wp2_with fail
      go_loopw [5] (fun i wr => ∃ k : Nat, k ≤ ls.length ∧ i = .int .i64 k ∧ Hid (∀ j, j < k → ∀ hj : j < ls.length, badB ls[j] = false) ∧ Below w.heap.size w wr) (fun i _ => ls.length - (intOf i).toNat)
      case atStart => exact ⟨0, Nat.zero_le _, rfl, fun j h => by omega, Below.refl _ _⟩
      case round =>
        obtain ⟨k2, hk2, rfl, ha, hB⟩ := hrel
        by_cases hlt2 : k2 < ls.length
        · obtain ⟨g, off, rfl, hg, hc⟩ := HC.out (by omega)
          have c1 : wr.cell? ⟨g, off + k2, none⟩ = some (.string ls[k2]) := (hB.cell (p := ⟨g, off + k2, none⟩) hg).trans (hc k2 hlt2)
          have hgw : g < wr.heap.size := Nat.lt_of_lt_of_le hg hB.size
          have hz := H60.out k2 hlt2
          have hbd : badB ls[k2] = true → tokensR ls = ([], 2) := fun h => tokR_bad h6' H60.out hlt2 h
          have hnx : badB ls[k2] = false → ∀ j, j < k2 + 1 → ∀ hj : j < ls.length, badB ls[j] = false := fun h => upto_getElem (P := fun b => badB b = false) hlt2 ha.out h
          have HBD := Lib.hid hbd
          have HNX := Lib.hid hnx
          clear hbd hnx hc ha
          generalize ls[k2] = x at c1 hz HBD HNX
          obtain ⟨f, hf, hfs⟩ : ∃ f : ByteArray, f.data.toList = foldL x ∧ f = ⟨(foldL x).toArray⟩ := ⟨_, rfl, rfl⟩
          have hfc := fun W => refFold_any x W (by omega)
          rw [← hfs] at hfc
          have HFC := Lib.hid hfc
          have hcmp := ba_eq f x
          have hfx : badB x = (decide (x.size = 0) || !decide (f = x)) := by
            unfold badB
            congr 2
            rw [← hf, Bool.eq_iff_iff]
            simp only [beq_iff_eq, decide_eq_true_eq]
            exact ⟨fun h => WideShapes.bytes_inj h, fun h => by rw [h]⟩
          have HFX := Lib.hid hfx
          clear hfc hf hfs hfx
          go_wp2_with fail
          go_cut [48] (fun b wx => b = .bool (badB x) ∧ Below w.heap.size w wx)
          case first =>
            by_cases hx0 : 0 < x.size
            · obtain ⟨e1, e2⟩ := ne_of_pos hx0
              rw [decide_eq_false (by omega : ¬ x.size = 0), Bool.false_or] at HFX
              generalize decide (f = x) = bb at hcmp HFX
              go_region_with (go_at_call 61; refine (HFC.out _).mono ?_; rintro e w5 ⟨rfl, hb5⟩; have d1 : w5.cell? ⟨g, off + k2, none⟩ = some (.string x) := (hb5.cell (p := ⟨g, off + k2, none⟩) hgw).trans c1)
              all_goals go_wp2_with fail
              all_goals
                go_meet
                first
                  | exact ⟨congrArg Value.bool (by rw [HFX.out]), hB.drew.trans (hb5.mono hB.drew.size)⟩
                  | trace_state
            · obtain ⟨e1, e2⟩ := eq_of_not_pos hx0
              have hb1 : badB x = true := by rw [HFX.out, decide_eq_true (by omega : x.size = 0)]; rfl
              have HB1 := Lib.hid hb1
              clear hb1
              go_quiet (fail)
              go_wp2_with fail
              go_meet
              exact ⟨congrArg Value.bool HB1.out.symm, below_drewN hB _⟩
          case rest =>
            clear hB c1 hcmp
            obtain ⟨rfl, hB⟩ := hcut
            cases hbx : badB x
            · have HN2 := Lib.hid (HNX.out hbx)
              go_wp2_with fail
              go_roundw
              case rel => exact ⟨k2 + 1, by omega, by go_num, HN2, hB⟩
              case measure => simp [intOf]; omega
            · have FIN := Lib.hid (rtok_err (HBD.out hbx) hB)
              go_wp2_with fail
              go_ret2
              exact FIN.out
        · have hgood : ∀ j (hj : j < ls.length), badB ls[j] = false := fun j hj => ha j (by omega) hj
          have hres := tokR_good h6' H60.out hgood
          have HG := Lib.hid hgood
          have HRES := Lib.hid hres
          clear hgood hres ha hk2
          obtain ⟨i0, hi⟩ := info_parts Tryz.infoRT
          have HI := Lib.hid hi
          clear hi
          go_wp2_with fail
          go_loopw [6, 7] (fun u i wx => ∃ q : Nat, q ≤ ls.length ∧ i = .int .i64 q ∧ Below w.heap.size w wx ∧ wx.ownsRow w.heap.size 51 4 u (toksFrom 0 (ls.take q)).length (toksV (toksFrom 0 (ls.take q)))) (fun _ i _ => ls.length - (intOf i).toNat)
          case atStart => exact ⟨0, Nat.zero_le _, rfl, hB, World.ownsRow_nil _ _ _ _⟩
          case round =>
            clear hB
            obtain ⟨q, hq, rfl, hB, hown⟩ := hrel
            have hTl : (toksFrom 0 (ls.take q)).length ≤ 7000 := by
              rw [toks_len]
              have := wsum_le (ls.take q) (fun b hb => HZ.out b (List.mem_of_mem_take hb))
              rw [List.length_take] at this
              omega
            by_cases hlq : q < ls.length
            · obtain ⟨g, off, rfl, hg, hc⟩ := HC.out (by omega)
              have hcq := hc q hlq
              have hz := H60.out q hlq
              obtain ⟨hx0, hxn⟩ := bad_not (HG.out q hlq)
              have hsn := toksFrom_snoc 0 ls q hlq
              rw [Nat.zero_add, ← lineTo_end] at hsn
              have HSN := Lib.hid hsn
              clear hsn hc
              generalize toksFrom 0 (ls.take q) = T0 at hown hTl HSN
              generalize ls[q] = x at hcq hz hx0 hxn HSN
              have HXN := Lib.hid hxn
              have HCQ := Lib.hid hcq
              have hc0 : wr.cell? ⟨g, off + q, none⟩ = some (.string x) := (hB.cell (p := ⟨g, off + q, none⟩) hg).trans hcq
              clear hxn hcq
              go_wp2_with fail
              obtain ⟨wo, hwo⟩ : ∃ wo : World, wo = wr := ⟨_, rfl⟩
              subst hwo
              clear hc0
              go_loopw [6, 8, 9] (fun u f kk wi => ∃ k : Nat, k ≤ x.size + 1 ∧ kk = .int .i64 k ∧ f = .int .i64 ((spansTo x k).2 : Nat) ∧ Below w.heap.size w wi ∧ wi.ownsRow w.heap.size 51 4 u (T0 ++ lineTo q x k).length (toksV (T0 ++ lineTo q x k))) (fun _ _ kk _ => x.size + 1 - (intOf kk).toNat)
              case atStart => exact ⟨0, Nat.zero_le _, rfl, rfl, hB, by simpa [lineTo, spansTo] using hown⟩
              case round =>
                clear hB hown
                obtain ⟨k, hk, rfl, rfl, hBi, hown⟩ := hrel
                have c1 : wr.cell? ⟨g, off + q, none⟩ = some (.string x) := (hBi.cell (p := ⟨g, off + q, none⟩) hg).trans HCQ.out
                have hsl := spansTo_len x k
                have hTn : (T0 ++ lineTo q x k).length ≤ 8000 := by
                  rw [List.length_append]; unfold lineTo; rw [List.length_map]; omega
                obtain ⟨hsl1, hsl2⟩ := hsl
                clear hsl1
                by_cases hks : k < x.size
                · have heq := u8_int x[k] 32 32 rfl
                  have hke : ((k : Int) == (x.size : Int)) = false := by simp; omega
                  have hbt0 : bt x k = x[k] := getD_32 hks
                  by_cases h32 : x[k] = 32
                  · rw [decide_eq_true h32] at heq
                    have hbt : bt x k = 32 := by rw [hbt0]; exact h32
                    have hst := start_lt HXN.out hx0 (by omega) hbt
                    clear hbt0 h32
                    obtain ⟨l1, l2⟩ := lineTo_blank (q := q) hbt hst
                    have hN := congrArg (T0 ++ ·) l1
                    simp only [← List.append_assoc] at hN
                    generalize hstt : (spansTo x k).2 = st at hst hN l1 ⊢
                    generalize hTT : T0 ++ lineTo q x k = TT at hown hN hTn
                    have HN := Lib.hid hN
                    have HL2 := Lib.hid l2
                    clear hN l1 l2 hstt hTT hbt
                    go_wp2_with (first
                      | (go_at_call 22; refine (refClasses_any _ _ (by rw [ByteArray.size_extract]; omega)).mono ?_; rintro e w5 ⟨rfl, hb5⟩; replace hown := hown.kept (grown_none hb5) (Classical.em _); replace hBi := hBi.trans (hb5.mono hBi.size); clear hb5)
                      | (at_builtin; refine wpList_append_own _ rfl _ _ 46 rfl w.heap.size 51 i0 (.agg #[.string ⟨#[]⟩, .int .i64 0, .int .i64 0, .int .u16 0]) 4 40 Tryz.underlying46 HI.out.1 HI.out.2.1 HI.out.2.2.1 HI.out.2.2.2 rfl (by decide) _ _ _ rfl (hown.alloc _) ⟨w5.heap.size, 0, none⟩ 1 1 [.string (x.extract st k), .int .i64 q, .int .i64 st, .int .u16 (classesB (x.extract st k))] rfl rfl (cells_new _ _ _) (by simp [Value.oneCell']) (by unfold maxLen; omega) (by omega) (by have := hBi.size; simp; omega) ?_; intro v' w6 hown' hgrow _; have hb1 : Below w.heap.size w w6 := (hBi.alloc hBi.size _).grown hgrow (by have := hBi.size; simp; omega) (fun r e => (hown.lt r e).1); clear hown hgrow))
                    go_roundw
                    case rel => exact ⟨k + 1, by omega, by go_num, by rw [HL2.out]; go_num, hb1, by rw [HN.out, toksV_snoc, List.length_append]; exact hown'⟩
                    case measure => simp [intOf]; omega
                  · rw [decide_eq_false h32] at heq
                    obtain ⟨l1, l2⟩ := lineTo_byte (q := q) (s := x) (k := k) (by rw [hbt0]; exact h32)
                    have HL1 := Lib.hid l1
                    have HL2 := Lib.hid l2
                    clear l1 l2 hbt0 h32
                    go_wp2_with fail
                    go_roundw
                    case rel => exact ⟨k + 1, by omega, by go_num, by rw [HL2.out], hBi, by rw [HL1.out]; exact hown⟩
                    case measure => simp [intOf]; omega
                · by_cases hke : k = x.size
                  · have hke2 : ((k : Int) == (x.size : Int)) = true := by simp [hke]
                    have hbt : bt x k = 32 := getD_32_out (by omega)
                    have hst := start_lt HXN.out hx0 (by omega) hbt
                    have hkl : k ≤ x.size := by omega
                    clear hke
                    obtain ⟨l1, l2⟩ := lineTo_blank (q := q) hbt hst
                    have hN := congrArg (T0 ++ ·) l1
                    simp only [← List.append_assoc] at hN
                    generalize hstt : (spansTo x k).2 = st at hst hN l1 ⊢
                    generalize hTT : T0 ++ lineTo q x k = TT at hown hN hTn
                    have HN := Lib.hid hN
                    have HL2 := Lib.hid l2
                    clear hN l1 l2 hstt hTT hbt
                    go_wp2_with (first
                      | (go_at_call 22; refine (refClasses_any _ _ (by rw [ByteArray.size_extract]; omega)).mono ?_; rintro e w5 ⟨rfl, hb5⟩; replace hown := hown.kept (grown_none hb5) (Classical.em _); replace hBi := hBi.trans (hb5.mono hBi.size); clear hb5)
                      | (at_builtin; refine wpList_append_own _ rfl _ _ 46 rfl w.heap.size 51 i0 (.agg #[.string ⟨#[]⟩, .int .i64 0, .int .i64 0, .int .u16 0]) 4 40 Tryz.underlying46 HI.out.1 HI.out.2.1 HI.out.2.2.1 HI.out.2.2.2 rfl (by decide) _ _ _ rfl (hown.alloc _) ⟨w5.heap.size, 0, none⟩ 1 1 [.string (x.extract st k), .int .i64 q, .int .i64 st, .int .u16 (classesB (x.extract st k))] rfl rfl (cells_new _ _ _) (by simp [Value.oneCell']) (by unfold maxLen; omega) (by omega) (by have := hBi.size; simp; omega) ?_; intro v' w6 hown' hgrow _; have hb1 : Below w.heap.size w w6 := (hBi.alloc hBi.size _).grown hgrow (by have := hBi.size; simp; omega) (fun r e => (hown.lt r e).1); clear hown hgrow))
                    go_roundw
                    case rel => exact ⟨k + 1, by omega, by go_num, by rw [HL2.out]; go_num, hb1, by rw [HN.out, toksV_snoc, List.length_append]; exact hown'⟩
                    case measure => simp [intOf]; omega
                  · obtain rfl : k = x.size + 1 := by omega
                    rw [← HSN.out] at hown
                    go_wp2_with fail
                    go_roundw
                    case rel => exact ⟨q + 1, by omega, by go_num, hBi, hown⟩
                    case measure => simp [intOf]; omega
            · obtain rfl : q = ls.length := by omega
              rw [List.take_length] at hown hTl
              obtain ⟨ua, uc, rfl⟩ := rslice_of_row hown
              by_cases h40 : 40 < (toksFrom 0 ls).length
              · rw [if_pos h40] at HRES
                have FIN := Lib.hid (rtok_err HRES.out hB)
                generalize toksFrom 0 ls = T0 at hTl h40
                clear hown
                go_wp2_with fail
                go_ret2
                exact FIN.out
              · rw [if_neg h40] at HRES
                have FIN := Lib.hid (rtok_ok HRES.out hB hown)
                clear hown
                generalize toksFrom 0 ls = T0 at hTl h40 FIN
                go_wp2_with fail
                go_ret2
                exact FIN.out
end Go.Proofs.YtdcpmnkebhilpaaGreatDoor
