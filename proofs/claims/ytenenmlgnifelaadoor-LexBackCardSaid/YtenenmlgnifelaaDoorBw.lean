/-
  The walk of letterbaglaw08.LexBack.
-/
import Derived.Test.YtenenmlgnifelaaDoorBw0
import Derived.Test.YtenenmlgnifelaaDoorNd
import Derived.Deep.DeepCutAuto
namespace Go.Proofs.YtenenmlgnifelaaDoor
open Go.RowKit
set_option linter.unusedVariables false
set_option maxRecDepth 100000 in
set_option maxHeartbeats 8000000 in
theorem lexBack_walk (s : ByteArray) (m : Int) (w : World) (hs : s.size ≤ maxLen) (h0 : 0 < w.heap.size) (hm : w.cell? ⟨0, 0, none⟩ = some (.int .i64 m)) :
    Calls Tryd.prog 8 #[.string s] w fun e w' => e = .returned (.bool true) ∧ Below w.heap.size w w' := by
  have HM := Lib.hid hm
  clear hm
  have hsm := hs
  unfold maxLen at hs
  by_cases hlong : 1000 < s.size
  · go_enter Tryd.func8, Tryd.ntmps8
    go_wp2_with (go_at_call 11; refine (awake_any m _ h0 HM.out).mono ?_; rintro e w1 ⟨rfl, hB⟩)
    go_ret
    exact ⟨rfl, hB⟩
  have hs6 : s.size ≤ 60000 := by omega
  have hs1 : s.size ≤ 1000 := by omega
  have hcl : s.data.toList.count 10 ≤ s.size := by have := List.count_le_length (a := (10 : UInt8)) (l := s.data.toList); simpa using this
  obtain ⟨L, hL⟩ : ∃ L, linesB s = L := ⟨_, rfl⟩
  have hcs := linesR_cases hL
  rcases hcs with ⟨h6, hR⟩ | ⟨h6, hlg, hR⟩ | ⟨h6, hlg, hR⟩
  · have hct := many_lines (by rw [hL]; exact h6)
    generalize hcc : s.data.toList.count 10 = ct at hct hcl
    have HCC := Lib.hid hcc
    have HR := Lib.hid hR
    clear hR hcc hL h6
    go_enter Tryd.func8, Tryd.ntmps8
    go_wp2_with (first
      | (go_at_call 11; refine (awake_any m _ h0 HM.out).mono ?_; rintro e w1 ⟨rfl, hB⟩)
      | (go_at_call 24; refine (lines_ev HR.out hs6 _).mono ?_; rintro e w2 ⟨gv, rfl, hb2, hgot⟩; obtain ⟨ga, gc, rfl⟩ := slice_of_row hgot; replace hB := hB.trans (hb2.mono hB.size); clear hb2)
      | (go_at_call 27; refine (count_ev s _).mono ?_; rintro e w3 ⟨rfl, rfl⟩; rw [HCC.out]))
    go_ret
    exact ⟨rfl, hB⟩
  · have h60 := long_lines (by rw [hL]; exact hlg)
    generalize hcc : s.data.toList.count 10 = ct at hcl
    have HCC := Lib.hid hcc
    have HR := Lib.hid hR
    clear hR hcc hL h6 hlg
    have hd60 : decide (60 < (s.size : Int)) = true := by simp; omega
    by_cases h5 : 5 < ct
    case' pos => have hd5 : decide (5 < (ct : Int)) = true := by simp; omega
    case' neg => have hd5 : decide (5 < (ct : Int)) = false := by simp; omega
    all_goals
      go_enter Tryd.func8, Tryd.ntmps8
      go_wp2_with (first
        | (go_at_call 11; refine (awake_any m _ h0 HM.out).mono ?_; rintro e w1 ⟨rfl, hB⟩)
        | (go_at_call 24; refine (lines_ev HR.out hs6 _).mono ?_; rintro e w2 ⟨gv, rfl, hb2, hgot⟩; obtain ⟨ga, gc, rfl⟩ := slice_of_row hgot; replace hB := hB.trans (hb2.mono hB.size); clear hb2)
        | (go_at_call 27; refine (count_ev s _).mono ?_; rintro e w3 ⟨rfl, rfl⟩; rw [HCC.out]))
      go_ret
      exact ⟨rfl, hB⟩
  · have hn : ∀ b ∈ L, Normal b.data.toList ∧ 0 < b.size := fun b hb => linesOf_mem (ps := splitL s.data.toList) (by rw [← hL] at hb; exact hb)
    have hz60 : ∀ b ∈ L, b.size ≤ 60 := fun b hb => by
      have := List.any_eq_false.1 hlg b hb
      simpa using this
    obtain ⟨jn, hj, hjs, hjc⟩ := join_ev L (fun b hb => by have := hz60 b hb; omega) (by omega)
    have hlb : linesB jn = L := by
      rw [show jn = ⟨(joinN (wl L)).toArray⟩ from WideShapes.bytes_inj (by rw [hj]), lines_join (wl L) (fun p hp => by
        obtain ⟨b, hb, rfl⟩ := List.mem_map.1 hp
        exact normal_no_nl (hn b hb).1), linesOf_folded L hn]
    have hRJ : linesR jn = (L, 0) := by
      rcases linesR_cases hlb with ⟨a, _⟩ | ⟨_, a, _⟩ | ⟨_, _, a⟩
      · omega
      · rw [hlg] at a; cases a
      · exact a
    have htk := tokensR_good h6 hlg hn
    have HR := Lib.hid hR
    have HRJ := Lib.hid hRJ
    have HJ := Lib.hid hjc
    have HN := Lib.hid hn
    have HZ := Lib.hid hz60
    have HSZ : Hid (∀ b ∈ L, b.size ≤ maxLen) := Lib.hid (fun b hb => by have := hz60 b hb; unfold maxLen; omega)
    have hkeep : (toksFrom 0 L).length = wsum L := toks_len L 0
    have hws : wsum L ≤ L.length * 1001 := wsum_le L (fun b hb => by have := hz60 b hb; omega)
    clear hR hRJ hjc hn hz60 hlb hj hL hlg
    by_cases h40 : 40 < (toksFrom 0 L).length
    · rw [if_pos h40] at htk
      rw [hkeep] at h40
      have HT := Lib.hid htk
      clear htk hkeep
      go_enter Tryd.func8, Tryd.ntmps8
      go_wp2_with (first
        | (go_at_call 11; refine (awake_any m _ h0 HM.out).mono ?_; rintro e w1 ⟨rfl, hB⟩)
        | (go_at_call 25; refine (HJ.out _ _ (ReadsC.of_row hown)).mono ?_; rintro e w3 ⟨rfl, hb3⟩; replace hown := hown.kept (grown_none hb3) (Classical.em _); replace hB := hB.trans (hb3.mono hB.size); clear hb3)
        | (go_at_call 26; refine (sameTexts_any L L _ _ _ (ReadsT.of_row hown2) (ReadsT.of_row hown) (by omega) (by omega)).mono ?_; rintro e w5 ⟨rfl, hb5⟩; rw [decide_eq_true rfl]; replace hown := hown.kept (grown_none hb5) (Classical.em _); replace hB := hB.trans (hb5.mono hB.size); clear hb5)
        | (go_at_call 28; refine (tokens_ev HT.out (by omega) HSZ.out (cell0' h0 HM.out hB).2 (cell0' h0 HM.out hB).1 hown).mono ?_; rintro e w6 ⟨u, rfl, hb6, hownT⟩; obtain ⟨ta, tc, rfl⟩ := tslice_of_row hownT; replace hown := hown.kept (grown_none hb6) (Classical.em _); replace hB := hB.trans (hb6.mono hB.size); clear hb6)
        | (go_at_call 24; first
          | ((with_reducible refine (lines_ev HR.out hs6 _).mono ?_); rintro e w2 ⟨gv, rfl, hb2, hown⟩; obtain ⟨ga, gc, rfl⟩ := slice_of_row hown; replace hB := hB.trans (hb2.mono hB.size); clear hb2)
          | ((with_reducible refine (lines_ev HRJ.out hjs _).mono ?_); rintro e w4 ⟨gv, rfl, hb4, hown2⟩; obtain ⟨ga2, gc2, rfl⟩ := slice_of_row hown2; replace hown := hown.kept (grown_none hb4) (Classical.em _); replace hB := hB.trans (hb4.mono hB.size); clear hb4)))
      have HRD : Hid (0 < L.length → ∃ g off, ga = some ⟨g, off, none⟩ ∧ g < w6.heap.size ∧ ∀ k (hk : k < L.length), w6.cell? ⟨g, off + k, none⟩ = some (.string L[k])) := Lib.hid (fun h => by
        obtain ⟨a, cap, e, hc⟩ := ReadsT.of_row hown
        obtain ⟨g, off, rfl, hg, hcc⟩ := hc h
        injection e with e1
        exact ⟨g, off, e1, hg, hcc⟩)
      clear hown hown2 hownT
      go_loopw [7, 8] (fun n i wr => ∃ k : Nat, k ≤ L.length ∧ i = .int .i64 k ∧ n = .int .i64 (wsum (L.take k)) ∧ Below w6.heap.size w6 wr) (fun _ i _ => L.length - (intOf i).toNat)
      case atStart => exact ⟨0, Nat.zero_le _, rfl, rfl, Below.refl _ _⟩
      case round =>
        obtain ⟨k, hk, rfl, rfl, hB6⟩ := hrel
        by_cases hlt : k < L.length
        · obtain ⟨g, off, rfl, hg, hc⟩ := HRD.out (by omega)
          have c1 : wr.cell? ⟨g, off + k, none⟩ = some (.string L[k]) := (hB6.cell (p := ⟨g, off + k, none⟩) hg).trans (hc k hlt)
          have hz := HZ.out _ (List.getElem_mem hlt)
          have hsu := wsum_take L k hlt
          have hwb : wsum (L.take k) ≤ 60000 := by
            have := wsum_le (L.take k) (fun b hb => by have := HZ.out b (List.mem_of_mem_take hb); omega)
            rw [List.length_take] at this
            omega
          have hwl : (wordsB L[k]).length ≤ 61 := by
            have := (wordsTo_le L[k] (L[k].size + 1)).2
            unfold wordsB
            omega
          have HSU := Lib.hid hsu
          clear hsu hc HRD
          generalize wsum (L.take k) = n at hwb HSU ⊢
          generalize L[k] = x at c1 hz HSU hwl
          go_wp2_with (go_at_call 29; refine (words_any x _ (by omega)).mono ?_; rintro e w7 ⟨v, rfl, hb7, hownW⟩; obtain ⟨wa, wc, rfl⟩ := slice_of_row hownW; replace hB6 := hB6.trans (hb7.mono hB6.size); clear hb7 hownW)
          go_roundw
          case rel => exact ⟨k + 1, by omega, by go_num, int_eq (by rw [HSU.out]; push_cast; rfl), hB6⟩
          case measure => simp [intOf]; omega
        · obtain rfl : k = L.length := by omega
          rw [List.take_length]
          generalize wsum L = n at h40 hws ⊢
          go_wp2_with fail
          go_ret
          exact ⟨rfl, hB.trans (hB6.mono hB.size)⟩
    · rw [if_neg h40] at htk
      have HT := Lib.hid htk
      have hbk := back_whole L (fun b hb => (HN.out b hb).1)
      have HBK := Lib.hid hbk
      have hTz := toks_bounds L 0 HZ.out
      generalize hTT : toksFrom 0 L = T at HT HBK h40 hTz
      have HTZ := Lib.hid hTz
      clear htk hkeep hbk hTT hTz
      have hT40 : T.length ≤ 40 := by omega
      go_enter Tryd.func8, Tryd.ntmps8
      go_wp2_with (first
        | (go_at_call 11; refine (awake_any m _ h0 HM.out).mono ?_; rintro e w1 ⟨rfl, hB⟩)
        | (go_at_call 25; refine (HJ.out _ _ (ReadsC.of_row hown)).mono ?_; rintro e w3 ⟨rfl, hb3⟩; replace hown := hown.kept (grown_none hb3) (Classical.em _); replace hB := hB.trans (hb3.mono hB.size); clear hb3)
        | (go_at_call 26; refine (sameTexts_any L L _ _ _ (ReadsT.of_row hown2) (ReadsT.of_row hown) (by omega) (by omega)).mono ?_; rintro e w5 ⟨rfl, hb5⟩; rw [decide_eq_true rfl]; replace hown := hown.kept (grown_none hb5) (Classical.em _); replace hB := hB.trans (hb5.mono hB.size); clear hb5)
        | (go_at_call 28; refine (tokens_ev HT.out (by omega) HSZ.out (cell0' h0 HM.out hB).2 (cell0' h0 HM.out hB).1 hown).mono ?_; rintro e w6 ⟨u, rfl, hb6, hownT⟩; obtain ⟨ta, tc, rfl⟩ := tslice_of_row hownT; replace hown := hown.kept (grown_none hb6) (Classical.em _); replace hB := hB.trans (hb6.mono hB.size); clear hb6)
        | (go_at_call 24; first
          | ((with_reducible refine (lines_ev HR.out hs6 _).mono ?_); rintro e w2 ⟨gv, rfl, hb2, hown⟩; obtain ⟨ga, gc, rfl⟩ := slice_of_row hown; replace hB := hB.trans (hb2.mono hB.size); clear hb2)
          | ((with_reducible refine (lines_ev HRJ.out hjs _).mono ?_); rintro e w4 ⟨gv, rfl, hb4, hown2⟩; obtain ⟨ga2, gc2, rfl⟩ := slice_of_row hown2; replace hown := hown.kept (grown_none hb4) (Classical.em _); replace hB := hB.trans (hb4.mono hB.size); clear hb4)))
      obtain ⟨i0, hi⟩ := info_parts Tryd.infoS
      obtain ⟨w9, hmk, hownL, hgL⟩ := run_make_full (P := Tryd.prog) w6 w6.heap.size 22 9 i0 (.string ⟨#[]⟩) 1 Tryd.underlying22 hi.1 hi.2.1 hi.2.2.1 .i64 .i64 L.length (by rw [hi.2.2.2]; omega) (by unfold maxLen; omega) (Nat.le_refl _)
      clear hi
      rw [hmk]
      go_wp2_with fail
      have hb9 : Below w6.heap.size w6 w9 := (Below.refl _ _).grown hgL (Nat.le_refl _) (fun _ e => by cases e)
      rw [made_txt] at hownL
      have HTR : Hid (0 < T.length → ∃ g, ta = some ⟨g, 0, none⟩ ∧ g < w6.heap.size ∧ ∀ k (hk : k < T.length), w6.cell? ⟨g, k * 4, none⟩ = some (.string T[k].1) ∧ w6.cell? ⟨g, k * 4 + 1, none⟩ = some (.int .i64 T[k].2.1) ∧ w6.cell? ⟨g, k * 4 + 2, none⟩ = some (.int .i64 T[k].2.2) ∧ w6.cell? ⟨g, k * 4 + 3, none⟩ = some (.int .u16 (classesB T[k].1))) := Lib.hid (trow_reads hownT)
      clear hownT hown2 hmk hgL
      go_loopw [10] (fun i wr => ∃ k : Nat, k ≤ T.length ∧ i = .int .i64 k ∧ Below w6.heap.size w6 wr ∧ wr.ownsRow w6.heap.size 9 1 (.slice (some ⟨w6.heap.size, 0, none⟩) L.length L.length) L.length (txtV (backTo T L.length k))) (fun i _ => T.length - (intOf i).toNat)
      case atStart => exact ⟨0, Nat.zero_le _, rfl, hb9, hownL⟩
      case round =>
        clear hb9 hownL
        obtain ⟨k, hk, rfl, hB6, hownL⟩ := hrel
        by_cases hlt : k < T.length
        · obtain ⟨g, rfl, hg, hcells⟩ := HTR.out (by omega)
          have cl : ∀ o, wr.cell? ⟨g, o, none⟩ = w6.cell? ⟨g, o, none⟩ := fun o => hB6.cell (p := ⟨g, o, none⟩) hg
          obtain ⟨a1, a2, a3, a4⟩ := hcells k hlt
          rw [← cl] at a1 a2 a3 a4
          obtain ⟨hq, hat, hprev⟩ := HBK.out.1.at_ k hlt
          have hbl := backTo_len T L.length k hk
          have hsu := backTo_succ T L.length k hlt
          change T[k].2.2 = posW ((backTo T L.length k).getD T[k].2.1 []) at hat
          obtain ⟨z1, z2⟩ := HTZ.out _ (List.getElem_mem hlt)
          obtain ⟨x1, x2⟩ := txt_cell hbl hownL hq
          have hgw : g < wr.heap.size := by have := hB6.size; omega
          have hlw : w6.heap.size < wr.heap.size := (hownL.lt w6.heap.size rfl).2
          have hgne : g ≠ w6.heap.size := by omega
          have hgne2 : ¬ g = wr.heap.size := by omega
          have hgne3 : ¬ w6.heap.size = wr.heap.size := by omega
          have hprev2 : ∀ (h0 : 0 < k), ∃ q0 : Nat, wr.cell? ⟨g, (k - 1) * 4 + 1, none⟩ = some (.int .i64 q0) ∧ q0 ≤ T[k].2.1 := fun h0 => ⟨(T[k - 1]'(by omega)).2.1, by rw [cl]; exact (hcells (k - 1) (by omega)).2.1, hprev h0⟩
          clear hprev hcells cl HTR
          unfold backStep at hsu
          generalize hts : backTo T L.length k = ts at hownL hat hbl x1 hsu
          generalize hwd : T[k].1 = wd at a1 a4 z1 hsu
          generalize hqq : T[k].2.1 = q at a2 hq hat x1 x2 hsu hprev2
          generalize hpp : T[k].2.2 = pos at a3 hat z2
          clear hts hwd hqq hpp
          have hcall := fun W => classes_any wd W (by unfold maxLen; omega)
          generalize classesB wd = cls at a4 hcall
          generalize hc : ts.getD q [] = c at hat hsu
          have HC := Lib.hid hc
          clear hc
          have HSU := Lib.hid hsu
          have HCL := Lib.hid hcall
          clear hsu hcall
          have hq0 : decide ((q : Int) < 0) = false := by simp
          have hq1 : decide (L.length ≤ q) = false := by simp; omega
          have hcc : c.length ≤ 60 := by have := sepC_len c; rw [hat] at z2; unfold posW at z2; split at z2 <;> simp_all <;> omega
          have HAT := Lib.hid hat
          clear x1 x2 hat
          go_wp2_with fail
          go_cut [133] (fun b wx => b = .bool false ∧ BackW w6 wr.heap.size L.length #[.string wd, .int .i64 q, .int .i64 pos, .int .u16 cls] ts wx)
          case first =>
            by_cases hk0 : 0 < k
            · obtain ⟨q0, p1, p2⟩ := hprev2 hk0
              have hdq : decide (q < q0) = false := by simp; omega
              have hd0 : decide (0 < k) = true := decide_eq_true hk0
              have hw1 : IntKind.i64.wrap ((k : Int) - 1) = (k : Int) - 1 := IntWalk.i64_in _ (by omega)
              have hw2 : 0 ≤ (k : Int) - 1 := by omega
              have hw3 : ((k : Int) - 1).toNat = k - 1 := by omega
              have hw4 : (k : Int) - 1 < (T.length : Int) := by omega
              have hw5 : 1 ≤ (k : Int) := by omega
              have hw6 : k - 1 < T.length := by omega
              clear hprev2
              go_quiet (fail)
              go_wp2_with fail
              go_meet
              exact ⟨rfl, BackW.new hB6 hownL _⟩
            · obtain rfl : k = 0 := by omega
              clear hprev2
              go_quiet (fail)
              go_wp2_with fail
              go_meet
              exact ⟨rfl, BackW.new hB6 hownL _⟩
          case rest =>
            obtain ⟨rfl, hbw⟩ := hcut
            have hXlt := hbw.2.2.1
            clear a1 a2 a3 a4 hprev2 hB6 hownL
            obtain ⟨x1, x2⟩ := hbw.text hbl hq
            have b1 : wc.cell? ⟨wr.heap.size, 0, none⟩ = some (.string wd) := hbw.cells 0
            have b2 : wc.cell? ⟨wr.heap.size, 1, none⟩ = some (.int .i64 q) := hbw.cells 1
            have b3 : wc.cell? ⟨wr.heap.size, 2, none⟩ = some (.int .i64 pos) := hbw.cells 2
            have b4 : wc.cell? ⟨wr.heap.size, 3, none⟩ = some (.int .u16 cls) := hbw.cells 3
            rw [HC.out] at x1
            obtain ⟨ct, hctl, hcts⟩ : ∃ ct : ByteArray, (⟨c.toArray⟩ : ByteArray) = ct ∧ ct.size = c.length := ⟨_, rfl, by simp [ByteArray.size]⟩
            rw [hctl] at x1
            have HCT := Lib.hid hctl
            have HCS := Lib.hid hcts
            have hctz : ct.size ≤ 60 := by omega
            clear hctl hcts
            go_upto_if 139 with fail
            go_cut [138] (fun _ wx => BackW w6 wr.heap.size L.length #[.string wd, .int .i64 q, .int .i64 pos, .int .u16 cls] (ts.set q (sepC c)) wx)
            case first =>
              by_cases hce : c = []
              · obtain ⟨e1, e2⟩ := eq_of_not_pos (s := ct) (by rw [HCS.out, hce]; simp)
                have hfin : BackW w6 wr.heap.size L.length #[.string wd, .int .i64 q, .int .i64 pos, .int .u16 cls] (ts.set q (sepC c)) wc := by
                  have : sepC c = ts.getD q [] := by rw [HC.out]; unfold sepC; rw [if_pos hce, hce]
                  rw [this, set_getD ts q (by omega)]; exact hbw
                have HFIN := Lib.hid hfin
                clear hfin hbw hce
                rw [e1]
                go_wp2_with fail
                go_meet
                exact HFIN.out
              · obtain ⟨e1, e2⟩ := ne_of_pos (s := ct) (by rw [HCS.out]; exact List.length_pos_iff.2 hce)
                have hfin : BackW w6 wr.heap.size L.length #[.string wd, .int .i64 q, .int .i64 pos, .int .u16 cls] (ts.set q (sepC c)) (wc.setCell ⟨w6.heap.size, q, none⟩ (.string (ct ++ ⟨#[32]⟩))) := by
                  have : ct ++ ⟨#[32]⟩ = (⟨(sepC c).toArray⟩ : ByteArray) := WideShapes.bytes_inj (by rw [← HCT.out]; unfold sepC; rw [if_neg hce]; simp)
                  rw [this]; exact hbw.store _
                have HFIN := Lib.hid hfin
                clear hfin hbw hce
                rw [e1]
                go_wp2_with fail
                go_meet
                exact HFIN.out
            case rest =>
              have hbw2 := hcut
              clear hcut hbw x1 x2 b1 b2 b3 b4 HCT HCS hctz
              obtain ⟨y1, y2⟩ := hbw2.text (by simp [hbl]) hq
              have hgs : (ts.set q (sepC c)).getD q [] = sepC c := by rw [List.getD_eq_getElem?_getD, List.getElem?_set_self (by omega)]; rfl
              rw [hgs] at y1
              obtain ⟨u, hul, hus⟩ : ∃ u : ByteArray, (⟨(sepC c).toArray⟩ : ByteArray) = u ∧ u.size = (sepC c).length := ⟨_, rfl, by simp [ByteArray.size]⟩
              rw [hul] at y1
              rw [sepC_len, ← HAT.out] at hus
              have hne : ((pos : Int) != (u.size : Int)) = false := by simp [hus]
              have huz : u.size ≤ 60 := by omega
              have HUL := Lib.hid hul
              clear hgs hul hus
              have b1 : wc.cell? ⟨wr.heap.size, 0, none⟩ = some (.string wd) := hbw2.cells 0
              have b2 : wc.cell? ⟨wr.heap.size, 1, none⟩ = some (.int .i64 q) := hbw2.cells 1
              have b3 : wc.cell? ⟨wr.heap.size, 2, none⟩ = some (.int .i64 pos) := hbw2.cells 2
              have b4 : wc.cell? ⟨wr.heap.size, 3, none⟩ = some (.int .u16 cls) := hbw2.cells 3
              have hXw : wr.heap.size < wc.heap.size := (Array.getElem?_eq_some_iff.1 hbw2.2.1).1
              have hLw : w6.heap.size < wc.heap.size := (hbw2.2.2.2.lt w6.heap.size rfl).2
              go_upto_region 30 with fail
              go_cut [163] (fun b wx => b = .bool false ∧ BackW w6 wr.heap.size L.length #[.string wd, .int .i64 q, .int .i64 pos, .int .u16 cls] (ts.set q (sepC c)) wx)
              case first =>
                have HBW := Lib.hid hbw2
                clear hbw2
                go_region_with (go_at_call 16; refine (HCL.out _).mono ?_; rintro e w5 ⟨rfl, hb5⟩; have d1 : w5.cell? ⟨wr.heap.size, 0, none⟩ = some (.string wd) := (hb5.cell (p := ⟨wr.heap.size, 0, none⟩) hXw).trans b1; have d4 : w5.cell? ⟨wr.heap.size, 3, none⟩ = some (.int .u16 cls) := (hb5.cell (p := ⟨wr.heap.size, 3, none⟩) hXw).trans b4)
                all_goals go_wp2_with fail
                all_goals
                  go_meet
                  exact ⟨rfl, HBW.out.drew.below hb5⟩
              case rest =>
                clear hbw2 b1 b2 b3 b4 y1 y2 hXw hLw
                obtain ⟨rfl, hbw3⟩ := hcut
                have hfin : ∀ j, BackW w6 wr.heap.size L.length #[.string wd, .int .i64 q, .int .i64 pos, .int .u16 cls] (backTo T L.length (k + 1)) ((wc.setCell ⟨w6.heap.size, q, none⟩ (.string (u ++ wd))).drewN j) := fun j => by
                  have e : u ++ wd = (⟨(addW c wd.data.toList).toArray⟩ : ByteArray) := WideShapes.bytes_inj (by rw [← HUL.out, addW_sep]; simp)
                  have := (hbw3.store (q := q) (addW c wd.data.toList)).drewN j
                  rw [List.set_set] at this
                  rw [e, HSU.out]
                  exact this
                obtain ⟨y1, y2⟩ := hbw3.text (by simp [hbl]) hq
                have hgs : (ts.set q (sepC c)).getD q [] = sepC c := by rw [List.getD_eq_getElem?_getD, List.getElem?_set_self (by omega)]; rfl
                rw [hgs, HUL.out] at y1
                have b1 : wc.cell? ⟨wr.heap.size, 0, none⟩ = some (.string wd) := hbw3.cells 0
                have b2 : wc.cell? ⟨wr.heap.size, 1, none⟩ = some (.int .i64 q) := hbw3.cells 1
                have HFIN := Lib.hid hfin
                clear hfin hbw3 hgs
                go_wp2_with fail
                go_region
                go_wp2_with fail
                go_roundw
                case rel => exact ⟨k + 1, by omega, by go_num, (HFIN.out 1).1, (HFIN.out 1).2.2.2⟩
                case measure => simp [intOf]; omega
        · obtain rfl : k = T.length := by omega
          have htx : txtV (backTo T L.length T.length) = L.map Value.string := by
            have : backTo T L.length T.length = wl L := by unfold backTo; rw [List.take_length]; exact HBK.out.2
            rw [this]
            unfold txtV wl
            rw [List.map_map]
            apply List.map_congr_left
            intro b _
            rfl
          rw [htx] at hownL
          have HRD : Hid (0 < L.length → ∃ g off, ga = some ⟨g, off, none⟩ ∧ g < w6.heap.size ∧ ∀ k (hk : k < L.length), w6.cell? ⟨g, off + k, none⟩ = some (.string L[k])) := Lib.hid (fun h => by
            obtain ⟨a, cap, e, hc⟩ := ReadsT.of_row hown
            obtain ⟨g, off, rfl, hg, hcc⟩ := hc h
            injection e with e1
            exact ⟨g, off, e1, hg, hcc⟩)
          clear htx HTR
          go_wp2_with fail
          obtain ⟨wo, hwo⟩ : ∃ wo : World, wo = wr := ⟨_, rfl⟩
          subst hwo
          go_loopw [12] (fun i wx => ∃ j : Nat, j ≤ L.length ∧ i = .int .i64 j ∧ Below wo.heap.size wo wx) (fun i _ => L.length - (intOf i).toNat)
          case atStart => exact ⟨0, Nat.zero_le _, rfl, Below.refl _ _⟩
          case round =>
            obtain ⟨j, hj, rfl, hBx⟩ := hrel
            by_cases hlt2 : j < L.length
            · obtain ⟨g, off, rfl, hg, hc⟩ := HRD.out (by omega)
              have hB7 : Below w6.heap.size w6 wr := hB6.trans (hBx.mono hB6.size)
              have c1 : wr.cell? ⟨g, off + j, none⟩ = some (.string L[j]) := (hB7.cell (p := ⟨g, off + j, none⟩) hg).trans (hc j hlt2)
              have hz := HZ.out _ (List.getElem_mem hlt2)
              obtain ⟨hnr, hps⟩ := HN.out _ (List.getElem_mem hlt2)
              have hrt := fun W => right_any L[j] W (by omega)
              rw [normal_fold hnr, beq_self_eq_true] at hrt
              have HRT := Lib.hid hrt
              clear hrt hnr hc HRD
              generalize L[j] = x at c1 hz hps HRT
              obtain ⟨e1, e2⟩ := ne_of_pos hps
              go_wp2_with (go_at_call 19; refine (HRT.out _).mono ?_; rintro e w7 ⟨rfl, hb7⟩; have c2 : w7.cell? ⟨g, off + j, none⟩ = some (.string x) := (hb7.cell (p := ⟨g, off + j, none⟩) (Nat.lt_of_lt_of_le hg hB7.size)).trans c1; replace hBx := hBx.trans (hb7.mono hBx.size))
              go_roundw
              case rel => exact ⟨j + 1, by omega, by go_num, hBx⟩
              case measure => simp [intOf]; omega
            · obtain rfl : j = L.length := by omega
              have hB7 : Below w6.heap.size w6 wr := hB6.trans (hBx.mono hB6.size)
              have ho1 := hownL.kept (grown_none hBx) (Classical.em _)
              have ho2 := hown.kept (grown_none hB7) (Classical.em _)
              go_wp2_with (go_at_call 26; refine (sameTexts_any L L _ _ _ (ReadsT.of_row ho1) (ReadsT.of_row ho2) (by omega) (by omega)).mono ?_; rintro e w8 ⟨rfl, hb8⟩; rw [decide_eq_true rfl]; replace hB7 := hB7.trans (hb8.mono hB7.size))
              go_ret
              exact ⟨rfl, hB.trans (hB7.mono hB.size)⟩
end Go.Proofs.YtenenmlgnifelaaDoor
