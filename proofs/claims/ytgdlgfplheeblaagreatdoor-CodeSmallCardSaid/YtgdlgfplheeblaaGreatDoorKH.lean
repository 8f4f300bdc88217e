/-
  Package code: Encode and Decode at any arguments.
-/
import Derived.Test.YtgdlgfplheeblaaGreatDoorKG
import Derived.Test.YtgdlgfplheeblaaGreatDoorKF
namespace Go.Proofs.YtgdlgfplheeblaaGreatDoor
open Go.RowKit
set_option linter.unusedVariables false
set_option maxRecDepth 100000
theorem results_tmp4 {fn : Func} {t u v x : Tmp} (h : fn.results = #[.tmp t, .tmp u, .tmp v, .tmp x]) (tmps : Array Value) (P : Program) (w : World) :
    (results fn tmps).run P w = .ok (.tuple #[tmps.getD t undef, tmps.getD u undef, tmps.getD v undef, tmps.getD x undef]) w := by
  simp [results, h]
theorem enc_any (c p : Int) (s : ByteArray) (w : World) (hs : s.size ≤ maxLen) (ht : TabW w) (hg : 3 < w.heap.size) :
    Calls Tryz.prog 12 #[.int .u8 c, .string s, .int .i64 p] w fun e w' => e = .returned (.tuple #[.string (encR c s p).1, .int .i64 (encR c s p).2]) ∧ Below w.heap.size w w' := by
  unfold encR
  by_cases h1 : c < 1 ∨ 3 < c ∨ p < 1 ∨ 999999 < p
  · rw [if_pos h1]; exact enc_range c p s w h1
  · rw [if_neg h1]
    cases hv : validB c s
    · rw [if_pos rfl]; exact enc_nocode c p s w (by omega) (by omega) hs hv
    · obtain ⟨j, rfl⟩ : ∃ j : Nat, c = j := ⟨c.toNat, by omega⟩
      obtain ⟨q, rfl⟩ : ∃ q : Nat, p = q := ⟨p.toNat, by omega⟩
      have hm : matchesB s.data.toList (patOf j) = true := by
        unfold validB at hv; rw [Bool.and_eq_true, Int.toNat_natCast] at hv; exact hv.2
      rw [if_neg (by decide), Int.toNat_natCast, Int.toNat_natCast]
      exact enc_ok j q s w (by omega) (by omega) (by omega) hm ht hg
theorem codeOf_len {j : Nat} (hj : j = 1 ∨ j = 2 ∨ j = 3) {d l : List UInt8} (hd : ∀ c ∈ d, 48 ≤ c.toNat ∧ c.toNat ≤ 57) (h : codeOfL j d = some l) : l.length ≤ 6 ∧ matchesB l (patOf j) = true := by
  unfold codeOfL at h
  split at h
  · have hm := (num_unnum (fun c hc => hd c (List.mem_of_mem_drop hc)) h).1
    have := matches_len hm
    have := patOf_len hj
    exact ⟨by omega, hm⟩
  · cases h
def DecPost (t : ByteArray) (w : World) (e : Ending) (w' : World) : Prop :=
  e = .returned (.tuple #[.int .u8 (decR t).1, .string (decR t).2.1, .int .i64 (decR t).2.2.1, .int .i64 (decR t).2.2.2]) ∧ Below w.heap.size w w'
set_option maxHeartbeats 8000000 in
theorem dec_any (t : ByteArray) (w : World) (hs : t.size ≤ maxLen) (ht : TabW w) (hg : 3 < w.heap.size) :
    Calls Tryz.prog 14 #[.string t] w (DecPost t w) := by
  have FN : Hid (∀ k w', decR t = noDec k → Below w.heap.size w w' → DecPost t w (.returned (.tuple #[.int .u8 0, .string ⟨#[]⟩, .int .i64 0, .int .i64 k])) w') := fun k w' h hb => ⟨by rw [h]; rfl, hb⟩
  have HPY := Lib.hid (fun W => cPayload_any t W hs)
  by_cases hpy : t.size = 17 ∧ digB t = true
  · obtain ⟨h17, hdg⟩ := hpy
    rw [decide_eq_true h17, hdg] at HPY
    have HTE := Lib.hid (fun W => test_any t W hdg (by omega) (by omega))
    cases hpb : permB (valsOf t)
    · rw [hpb] at HTE
      have FN' := Lib.hid (fun w' => FN.out 172 w' (decR_172 h17 hdg hpb))
      clear FN h17 hdg hpb hs
      go_enter Tryz.func14, Tryz.ntmps14
      go_wp2_with fail
      refine (HPY.out _).mono ?_
      rintro e w1 ⟨rfl, hb1⟩
      have HB1 := Lib.hid hb1
      clear hb1
      go_wp2_with fail
      refine (cperm_any _).mono ?_
      rintro e w2 ⟨rfl, hb2⟩
      have HB2 := Lib.hid (HB1.out.trans (hb2.mono HB1.out.size))
      clear hb2
      go_wp2_with fail
      refine (HTE.out _).mono ?_
      rintro e w3 ⟨rfl, hb3⟩
      have HB3 := Lib.hid (HB2.out.trans (hb3.mono HB2.out.size))
      clear hb3
      go_wp2_with fail
      refine bodyPost_ret (results_tmp4 rfl _ _ _) rfl ?_
      exact FN'.out _ HB3.out
    · rw [hpb] at HTE
      have hda := digB_iff.1 hdg
      have h0 : 0 < t.size := by omega
      have hdl : t.data.toList.length = 17 := h17
      have hd0 := hda (t.data.toList[0]'(by omega)) (List.getElem_mem _)
      have e0 : (t[0]'h0) = t.data.toList[0]'(by omega) := rfl
      obtain ⟨n, hn⟩ : ∃ n, headC t = n := ⟨_, rfl⟩
      have hh : headC t = (t.data.toList[0]'(by omega)).toNat - 48 := by
        unfold headC
        rw [List.headD_eq_head?_getD, List.head?_eq_getElem?, List.getElem?_eq_getElem (by omega)]; rfl
      have hbn : ((t[0]'h0).toNat : Int) = (n : Int) + 48 := by rw [e0]; omega
      have hn9 : (n : Int) ≤ 9 := by omega
      have hdec : decR t = if n < 1 ∨ 3 < n then noDec 170 else match codeOfL n ((t.data.toList.drop 1).take 9) with
        | none => noDec 170
        | some l => if encR (n : Nat) ⟨l.toArray⟩ (numOf ((t.data.toList.drop 10).take 6) : Nat) = (t, 0) then ((n : Nat), ⟨l.toArray⟩, (numOf ((t.data.toList.drop 10).take 6) : Nat), 0) else noDec 170 := by
        unfold decR; rw [if_pos ⟨h17, hdg⟩, if_pos hpb, hn]; rfl
      clear hh hn e0 hpb
      by_cases hr : n < 1 ∨ 3 < n
      · rw [if_pos hr] at hdec
        have FN' := Lib.hid (fun w' => FN.out 170 w' hdec)
        clear hdec FN hdg hda hd0 hdl hs
        rcases hr with hr | hr
        all_goals
          first
          | have d1 : decide ((n : Int) < 1) = true := decide_eq_true (by omega)
          | have d1 : decide ((n : Int) < 1) = false := decide_eq_false (by omega)
          first
          | have d2 : decide (3 < (n : Int)) = true := decide_eq_true (by omega)
          | have d2 : True := trivial
          clear hr
          go_enter Tryz.func14, Tryz.ntmps14
          go_wp2_with fail
          refine (HPY.out _).mono ?_
          rintro e w1 ⟨rfl, hb1⟩
          have HB1 := Lib.hid hb1
          clear hb1
          go_wp2_with fail
          refine (cperm_any _).mono ?_
          rintro e w2 ⟨rfl, hb2⟩
          have HB2 := Lib.hid (HB1.out.trans (hb2.mono HB1.out.size))
          clear hb2
          go_wp2_with fail
          refine (HTE.out _).mono ?_
          rintro e w3 ⟨rfl, hb3⟩
          have HB3 := Lib.hid (HB2.out.trans (hb3.mono HB2.out.size))
          clear hb3
          go_wp2_with fail
          refine bodyPost_ret (results_tmp4 rfl _ _ _) rfl ?_
          exact FN'.out _ HB3.out
      · rw [if_neg hr] at hdec
        have hj : n = 1 ∨ n = 2 ∨ n = 3 := by omega
        have d1 : decide ((n : Int) < 1) = false := decide_eq_false (by omega)
        have d2 : decide (3 < (n : Int)) = false := decide_eq_false (by omega)
        have hx : (t.extract 1 10).data.toList = (t.data.toList.drop 1).take 9 := extract_list t 1 10
        have hy : (t.extract 10 16).data.toList = (t.data.toList.drop 10).take 6 := extract_list t 10 16
        have hxs : (t.extract 1 10).size = 9 := by rw [ByteArray.size_extract]; omega
        have hys : (t.extract 10 16).size = 6 := by rw [ByteArray.size_extract]; omega
        obtain ⟨m, hm⟩ := decFrom_ok (t.extract 10 16).data.toList 0 (digB_iff.1 (digB_extract hdg 10 16))
        have hnum : numOf ((t.data.toList.drop 10).take 6) = m := by rw [← hy]; unfold numOf; rw [hm]; rfl
        rw [hnum] at hdec
        have HAT := Lib.hid (fun W => atoi_any (t.extract 10 16) m W (by omega) (by omega) (digB_extract hdg 10 16) hm)
        have HCO : Hid (∀ W (z : Int), z = n → Calls Tryz.prog 29 #[.int .u8 z, .string (t.extract 1 10)] W (CodeOfPost n (t.extract 1 10) W)) := fun W z hz => by
          subst hz; exact codeOf_any n (t.extract 1 10) W hj hxs (digB_extract hdg 1 10)
        rw [← hx] at hdec
        have hdx := digB_iff.1 (digB_extract hdg 1 10)
        have HG := Lib.hid hg
        have HT0 := Lib.hid ht
        have HJ := Lib.hid hj
        have HDX := Lib.hid hdx
        clear hr hx hy hxs hys hnum hm hdx hj hdg hda hd0 hdl hs hg ht
        have h171 : (17 : Int) ≤ (t.size : Int) := by omega
        go_enter Tryz.func14, Tryz.ntmps14
        go_wp2_with fail
        refine (HPY.out _).mono ?_
        rintro e w1 ⟨rfl, hb1⟩
        have HB1 := Lib.hid hb1
        clear hb1
        go_wp2_with fail
        refine (cperm_any _).mono ?_
        rintro e w2 ⟨rfl, hb2⟩
        have HB2 := Lib.hid (HB1.out.trans (hb2.mono HB1.out.size))
        clear hb2
        go_wp2_with fail
        refine (HTE.out _).mono ?_
        rintro e w3 ⟨rfl, hb3⟩
        have HB3 := Lib.hid (HB2.out.trans (hb3.mono HB2.out.size))
        clear hb3 HPY HTE HB1 HB2
        go_wp2_with fail
        refine (HCO.out _ _ (by omega)).mono ?_
        rintro e w4 ⟨hor, hb4⟩
        have HB4 := Lib.hid (HB3.out.trans (hb4.mono HB3.out.size))
        clear hb4
        rcases hor with ⟨hnone, rfl⟩ | ⟨l, hsome, rfl⟩
        · rw [hnone] at hdec
          have FN' := Lib.hid (fun w' => FN.out 170 w' hdec)
          clear hdec FN hnone
          go_wp2_with fail
          refine (HAT.out _).mono ?_
          rintro e w5 ⟨rfl, hb5⟩
          have HB5 := Lib.hid (HB4.out.trans (hb5.mono HB4.out.size))
          clear hb5
          go_wp2_with fail
          refine bodyPost_ret (results_tmp4 rfl _ _ _) rfl ?_
          exact FN'.out _ HB5.out
        · rw [hsome] at hdec
          simp only at hdec
          have hll := (codeOf_len HJ.out HDX.out hsome).1
          have HEN : Hid (∀ W (z : Int), z = n → TabW W → 3 < W.heap.size → Calls Tryz.prog 12 #[.int .u8 z, .string ⟨l.toArray⟩, .int .i64 (m : Nat)] W fun e w' => e = .returned (.tuple #[.string (encR n ⟨l.toArray⟩ m).1, .int .i64 (encR n ⟨l.toArray⟩ m).2]) ∧ Below W.heap.size W w') := fun W z hz h1 h2 => by
            subst hz; exact enc_any n m _ W (by show l.length ≤ maxLen; unfold maxLen; omega) h1 h2
          clear hsome hll
          have HOK : Hid (encR n ⟨l.toArray⟩ m = (t, 0) → ∀ w', Below w.heap.size w w' → DecPost t w (.returned (.tuple #[.int .u8 (n : Nat), .string ⟨l.toArray⟩, .int .i64 (m : Nat), .int .i64 0])) w') := fun h w' hb => ⟨by rw [hdec, if_pos h], hb⟩
          have HNO : Hid (encR n ⟨l.toArray⟩ m ≠ (t, 0) → ∀ w', Below w.heap.size w w' → DecPost t w (.returned (.tuple #[.int .u8 0, .string ⟨#[]⟩, .int .i64 0, .int .i64 170])) w') := fun h w' hb => FN.out 170 w' (by rw [hdec, if_neg h]) hb
          clear hdec FN
          generalize encR n ⟨l.toArray⟩ m = r at HEN HOK HNO
          obtain ⟨x, er⟩ := r
          simp only at HEN
          go_wp2_with fail
          refine (HAT.out _).mono ?_
          rintro e w5 ⟨rfl, hb5⟩
          have HB5 := Lib.hid (HB4.out.trans (hb5.mono HB4.out.size))
          clear hb5
          go_wp2_with fail
          refine (HEN.out _ _ (by omega) (HT0.out.below HB5.out HG.out) (Nat.lt_of_lt_of_le HG.out HB5.out.size)).mono ?_
          rintro e w6 ⟨rfl, hb6⟩
          have HB6 := Lib.hid (HB5.out.trans (hb6.mono HB5.out.size))
          clear hb6
          have hbe := ba_eq2 x t
          by_cases he : er = 0
          · subst he
            by_cases hxt : x = t
            · rw [decide_eq_true hxt] at hbe
              have HOK' := HOK.out (by rw [hxt])
              have HO := Lib.hid HOK'
              clear HOK' HOK HNO hxt
              go_wp2_with fail
              refine bodyPost_ret (results_tmp4 rfl _ _ _) rfl ?_
              exact HO.out _ HB6.out
            · rw [decide_eq_false hxt] at hbe
              have HO := Lib.hid (HNO.out (fun h => hxt (congrArg Prod.fst h)))
              clear HOK HNO hxt
              go_wp2_with fail
              refine bodyPost_ret (results_tmp4 rfl _ _ _) rfl ?_
              exact HO.out _ HB6.out
          · have he1 : (er == 0) = false := by simpa using he
            have he2 : (er != 0) = true := by simpa using he
            have HO := Lib.hid (HNO.out (fun h => he (congrArg Prod.snd h)))
            clear HOK HNO he hbe
            go_wp2_with fail
            refine bodyPost_ret (results_tmp4 rfl _ _ _) rfl ?_
            exact HO.out _ HB6.out
  · have FN' := Lib.hid (fun w' => FN.out 171 w' (decR_171 hpy))
    have hb : (decide (t.size = 17) && digB t) = false := by
      cases h1 : digB t
      · simp
      · rw [decide_eq_false (fun h => hpy ⟨h, h1⟩)]; rfl
    rw [hb] at HPY
    clear hb hpy FN hs
    go_enter Tryz.func14, Tryz.ntmps14
    go_wp2_with fail
    refine (HPY.out _).mono ?_
    rintro e w1 ⟨rfl, hb1⟩
    go_wp2_with fail
    refine bodyPost_ret (results_tmp4 rfl _ _ _) rfl ?_
    exact FN'.out _ hb1
end Go.Proofs.YtgdlgfplheeblaaGreatDoor
