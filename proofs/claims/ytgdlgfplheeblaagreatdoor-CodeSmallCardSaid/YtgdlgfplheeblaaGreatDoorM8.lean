/-
  The reference's Decode of layer 17: the walk.
-/
import Derived.Test.YtgdlgfplheeblaaGreatDoorM7
import Derived.Test.YtgdlgfplheeblaaGreatDoorM6
namespace Go.Proofs.YtgdlgfplheeblaaGreatDoor
open Go.RowKit Go.Sort
set_option linter.unusedVariables false
set_option maxRecDepth 100000
def RDecPost (t : ByteArray) (w : World) (e : Ending) (w' : World) : Prop :=
  e = .returned (.tuple #[.int .u8 (decR t).1, .string (decR t).2.1, .int .i64 (decR t).2.2.1, .int .i64 (decR t).2.2.2]) ∧ Below w.heap.size w w'
theorem rDec_size (t : ByteArray) (w : World) (hs : t.size ≤ 60000) (h : t.size ≠ 17) : Calls Tryz.prog 19 #[.string t] w (RDecPost t w) := by
  have FN : Hid (RDecPost t w (.returned (.tuple #[.int .u8 0, .string ⟨#[]⟩, .int .i64 0, .int .i64 171])) w) := ⟨by rw [decR_171 (fun x => h x.1)]; rfl, Below.refl _ _⟩
  have hne : ((t.size : Int) != 17) = true := by simp; omega
  clear h
  go_enter Tryz.func19, Tryz.ntmps19
  go_wp2_with fail
  refine bodyPost_ret (results_tmp4 rfl _ _ _) rfl ?_
  exact FN.out
theorem dig_all {t : ByteArray} (h : ∀ k (h : k < t.size), 48 ≤ (t[k]'h).toNat ∧ (t[k]'h).toNat ≤ 57) : digB t = true := digB_iff.2 fun c hc => by
  obtain ⟨k, hk, rfl⟩ := List.mem_iff_getElem.1 hc
  exact h k hk
set_option maxHeartbeats 4000000 in
theorem rDec_digits (t : ByteArray) (w : World) (h17 : t.size = 17) (h : digB t = false) : Calls Tryz.prog 19 #[.string t] w (RDecPost t w) := by
  have FN : Hid (RDecPost t w (.returned (.tuple #[.int .u8 0, .string ⟨#[]⟩, .int .i64 0, .int .i64 171])) w) := ⟨by rw [decR_171 (fun x => by rw [x.2] at h; cases h)]; rfl, Below.refl _ _⟩
  have HD := Lib.hid h
  have hne : ((t.size : Int) != 17) = false := by simp; omega
  clear h
  go_enter Tryz.func19, Tryz.ntmps19
  go_wp2_with fail
  go_loop [6] (fun i => ∃ k : Nat, k ≤ 17 ∧ i = .int .i64 k ∧ Hid (∀ q (h : q < t.size), q < k → 48 ≤ (t[q]'h).toNat ∧ (t[q]'h).toNat ≤ 57)) (fun i => 17 - (intOf i).toNat)
  case atStart => exact ⟨0, by omega, rfl, fun q h hq => by omega⟩
  case round =>
    obtain ⟨k, hk, rfl, HQ⟩ := hrel
    by_cases hlt : k < 17
    · have hks : k < t.size := by omega
      by_cases h1 : ((t[k]'hks).toNat : Int) < 48
      · have d1 : decide (((t[k]'hks).toNat : Int) < 48) = true := decide_eq_true h1
        go_wp2_with fail
        refine bodyPost_ret (results_tmp4 rfl _ _ _) rfl ?_
        exact FN.out
      · have d1 : decide (((t[k]'hks).toNat : Int) < 48) = false := decide_eq_false h1
        by_cases h2 : 57 < ((t[k]'hks).toNat : Int)
        · have d2 : decide (57 < ((t[k]'hks).toNat : Int)) = true := decide_eq_true h2
          go_wp2_with fail
          refine bodyPost_ret (results_tmp4 rfl _ _ _) rfl ?_
          exact FN.out
        · have d2 : decide (57 < ((t[k]'hks).toNat : Int)) = false := decide_eq_false h2
          have HQ2 : Hid (∀ q (h : q < t.size), q < k + 1 → 48 ≤ (t[q]'h).toNat ∧ (t[q]'h).toNat ≤ 57) := fun q h hq => by
            by_cases hqk : q < k
            · exact HQ.out q h hqk
            · obtain rfl : q = k := by omega
              omega
          clear h1 h2
          go_wp2_with fail
          go_round
          case rel => exact ⟨k + 1, by omega, by go_num, HQ2.out⟩
          case measure => simp [intOf]; omega
    · exfalso
      have := dig_all (t := t) (fun q h => HQ.out q h (by omega))
      rw [HD.out] at this
      cases this
set_option maxHeartbeats 8000000 in
theorem rDec_main (t : ByteArray) (w : World) (h17 : t.size = 17) (hd : digB t = true) : Calls Tryz.prog 19 #[.string t] w (RDecPost t w) := by
  have FN : Hid (∀ k w', decR t = noDec k → Below w.heap.size w w' → RDecPost t w (.returned (.tuple #[.int .u8 0, .string ⟨#[]⟩, .int .i64 0, .int .i64 k])) w') := fun k w' h hb => ⟨by rw [h]; rfl, hb⟩
  have HDA : Hid (∀ q (h : q < t.size), 48 ≤ ((t[q]'h).toNat : Int) ∧ ((t[q]'h).toNat : Int) ≤ 57) := fun q h => by
    have := digB_iff.1 hd (t[q]'h) (Array.mem_toList_iff.2 (Array.getElem_mem (xs := t.data) h))
    omega
  have HTE := Lib.hid (fun W => test16_any t W hd (by omega) (by omega))
  have hne : ((t.size : Int) != 17) = false := by simp; omega
  have h0 : 0 < t.size := by omega
  obtain ⟨n, hn⟩ : ∃ n, headC t = n := ⟨_, rfl⟩
  have hd0 := HDA.out 0 h0
  have hh : headC t = (t[0]'h0).toNat - 48 := by
    unfold headC
    rw [List.headD_eq_head?_getD, List.head?_eq_getElem?, List.getElem?_eq_getElem (by exact h0)]; rfl
  have hbn : ((t[0]'h0).toNat : Int) = (n : Int) + 48 := by omega
  have hn9 : (n : Int) ≤ 9 := by omega
  have hn0 : (0 : Int) ≤ (n : Int) := by omega
  have hNT : (t.extract 10 16).data.toList = (t.data.toList.drop 10).take 6 := extract_list t 10 16
  have HNV : Hid (∀ W, Calls Tryz.prog 40 #[.string (t.extract 10 16)] W fun e w' => e = .returned (.int .i64 (numT t : Nat)) ∧ W = w') := fun W => by
    have := value_any (t.extract 10 16) W (digB_extract hd _ _) (by rw [ByteArray.size_extract]; omega)
    rw [hNT] at this
    exact this
  have HD := Lib.hid hd
  have HDR : Hid (permB (valsOf t) = true → decR t = decRef n t) := fun h => by rw [dec_ref h17 hd h, hn]
  have HDP : Hid (permB (valsOf t) = false → decR t = noDec 172) := fun h => decR_172 h17 hd h
  have H17 := Lib.hid h17
  generalize permB (valsOf t) = pb at HTE HDR HDP
  have htn : numT t < 1000000 := by
    unfold numT
    rw [← hNT, show (t.extract 10 16).data.toList = (t.extract 10 16).data.toList.take 6 from (List.take_of_length_le (by show (t.extract 10 16).size ≤ 6; rw [ByteArray.size_extract]; omega)).symm]
    exact numOf_le (digB_extract hd _ _) (by rw [ByteArray.size_extract]; omega) 6
  obtain ⟨nt, hnt⟩ : ∃ nt, numT t = nt := ⟨_, rfl⟩
  rw [hnt] at HNV htn
  have HEN : Hid (∀ W (z : ByteArray), z.size ≤ 60000 → Calls Tryz.prog 18 #[.int .u8 (n : Nat), .string z, .int .i64 (nt : Nat)] W fun e w' => e = .returned (.tuple #[.string (encR n z nt).1, .int .i64 (encR n z nt).2]) ∧ Below W.heap.size W w') := fun W z hz => rEnc_any n nt z W (by omega) hz
  have HFIN : Hid (∀ (z : ByteArray) (w' : World), decR t = decRef n t → codeRef n t = some z → Below w.heap.size w w' → ((encR n z nt).2 = 0 ∧ (encR n z nt).1 = t → RDecPost t w (.returned (.tuple #[.int .u8 (n : Nat), .string z, .int .i64 (nt : Nat), .int .i64 0])) w') ∧ (¬ ((encR n z nt).2 = 0 ∧ (encR n z nt).1 = t) → RDecPost t w (.returned (.tuple #[.int .u8 0, .string ⟨#[]⟩, .int .i64 0, .int .i64 170])) w')) := fun z w' hdr hcr hb => by
    unfold decRef at hdr
    rw [hcr, hnt] at hdr
    simp only at hdr
    refine ⟨fun h => ?_, fun h => ?_⟩
    · rw [if_pos (Prod.ext h.2 h.1)] at hdr
      exact ⟨by rw [hdr], hb⟩
    · rw [if_neg (fun he => h ⟨congrArg Prod.snd he, congrArg Prod.fst he⟩)] at hdr
      exact FN.out 170 w' hdr hb
  have HVT : Hid (∀ m, m < 3 → ∀ W, Calls Tryz.prog 40 #[.string (t.extract (1 + 3 * m) (1 + 3 * m + 2))] W fun e w' => e = .returned (.int .i64 (numOf (t.extract (1 + 3 * m) (1 + 3 * m + 2)).data.toList : Nat)) ∧ W = w') := fun m hm W =>
    value_any _ W (digB_extract hd _ _) (by rw [ByteArray.size_extract]; omega)
  clear hn hh hd0 hNT hd hnt
  go_enter Tryz.func19, Tryz.ntmps19
  go_wp2_with fail
  go_loop [6] (fun i => ∃ k : Nat, k ≤ 17 ∧ i = .int .i64 k) (fun i => 17 - (intOf i).toNat)
  case atStart => exact ⟨0, by omega, rfl⟩
  case round =>
    obtain ⟨k, hk, rfl⟩ := hrel
    by_cases hlt : k < 17
    · have hks : k < t.size := by omega
      obtain ⟨x1, x2⟩ := HDA.out k hks
      have d1 : decide (((t[k]'hks).toNat : Int) < 48) = false := decide_eq_false (by omega)
      have d2 : decide (57 < ((t[k]'hks).toNat : Int)) = false := decide_eq_false (by omega)
      clear x1 x2
      go_wp2_with fail
      go_round
      case rel => exact ⟨k + 1, by omega, by go_num⟩
      case measure => simp [intOf]; omega
    · obtain rfl : k = 17 := by omega
      clear hlt hk HDA
      cases pb
      · have FN' := Lib.hid (fun w' => FN.out 172 w' (HDP.out rfl))
        clear FN HDR HDP HFIN HEN HVT HNV
        go_wp2_with fail
        refine (HTE.out _).mono ?_
        rintro e w1 ⟨rfl, hb1⟩
        go_wp2_with fail
        refine bodyPost_ret (results_tmp4 rfl _ _ _) rfl ?_
        exact FN'.out _ hb1
      · have HF := Lib.hid (fun z w' => HFIN.out z w' (HDR.out rfl))
        have HDR1 := Lib.hid (HDR.out rfl)
        have HDR2 := Lib.hid (HDR.out rfl)
        clear HDR HDP HFIN
        have hw1 : IntKind.u8.wrap (((t[0]'h0).toNat : Int) - 48) = (n : Int) := by rw [IntWalk.u8_in _ (by omega)]; omega
        have hx1 : ((t[0]'h0).toNat : Int) - 48 = (n : Int) := by omega
        have hnti : (nt : Int) ≤ 999999 := by omega
        have hnt0 : (0 : Int) ≤ (nt : Int) := by omega
        clear htn
        go_wp2_with fail
        refine (HTE.out _).mono ?_
        rintro e w1 ⟨rfl, hb1⟩
        have HB1 := Lib.hid hb1
        clear hb1 HTE
        go_wp2_with fail
        have CV : Hid (∀ W, Below w1.heap.size w1 W → Calls Tryz.prog 40 #[.string (t.extract 10 16)] W fun e w' => e = .returned (.int .i64 (nt : Nat)) ∧ Below W.heap.size W w') := fun W _ => (HNV.out W).mono fun e w' ⟨a, b⟩ => ⟨a, by subst b; exact Below.refl _ _⟩
        clear HNV
        have h17' : (17 : Int) ≤ (t.size : Int) := by have := H17.out; omega
        have h17n : 17 ≤ t.size := by have := H17.out; omega
        have hti : (t.size : Int) = 17 := by have := H17.out; omega
        clear h17
        refine wp_region_quiet_below (by kernel_rfl) (by kernel_rfl) ?_
        repeat (go_big_quiet_step ((with_reducible exact regrown_in CV.out _)))
        refine wpQuiet_nil ?_
        intro _ hw'
        obtain ⟨pp, hw''⟩ := hw'
        subst hw''
        have HBX : Hid (Below w.heap.size w (grow (redrawn w1 pp.d) pp.os)) := HB1.out.trans ((below_in w1 pp).mono HB1.out.size)
        clear CV HB1
        generalize grow (redrawn w1 pp.d) pp.os = w2 at HBX ⊢
        clear hw1 hx1 hbn
        by_cases hn1 : n = 1
        · have t1 : ((n : Int) == 1) = true := by simp; omega
          have hz : (t.extract 5 10).size ≤ 60000 := by rw [ByteArray.size_extract]; omega
          have HENZ : Hid (∀ (W : World) (k : Int), k = (n : Nat) → Calls Tryz.prog 18 #[.int .u8 k, .string (t.extract 5 10), .int .i64 (nt : Nat)] W fun e w' => e = .returned (.tuple #[.string (encR n (t.extract 5 10) nt).1, .int .i64 (encR n (t.extract 5 10) nt).2]) ∧ Below W.heap.size W w') := fun W k hk => by subst hk; exact HEN.out W (t.extract 5 10) hz
          have HFZ : Hid (∀ w', Below w.heap.size w w' → ((encR n (t.extract 5 10) nt).2 = 0 ∧ (encR n (t.extract 5 10) nt).1 = t → ∀ k : Int, k = (n : Nat) → RDecPost t w (.returned (.tuple #[.int .u8 k, .string (t.extract 5 10), .int .i64 (nt : Nat), .int .i64 0])) w') ∧ (¬ ((encR n (t.extract 5 10) nt).2 = 0 ∧ (encR n (t.extract 5 10) nt).1 = t) → RDecPost t w (.returned (.tuple #[.int .u8 0, .string ⟨#[]⟩, .int .i64 0, .int .i64 170])) w')) := fun w' hb => ⟨fun h k hk => by subst hk; exact (HF.out (t.extract 5 10) w' (by unfold codeRef; rw [if_pos hn1]) hb).1 h, (HF.out (t.extract 5 10) w' (by unfold codeRef; rw [if_pos hn1]) hb).2⟩
          obtain ⟨er, her⟩ : ∃ er, (encR n (t.extract 5 10) nt).2 = er := ⟨_, rfl⟩
          obtain ⟨ag, hag⟩ : ∃ ag, (encR n (t.extract 5 10) nt).1 = ag := ⟨_, rfl⟩
          rw [her, hag] at HENZ HFZ
          clear her hag hz HEN HF HVT HDR1 HD
          go_wp2_with fail
          refine (HENZ.out _ _ (by omega)).mono ?_
          rintro e w3 ⟨rfl, hb3⟩
          have HB3 := Lib.hid (HBX.out.trans (hb3.mono HBX.out.size))
          clear hb3 HENZ
          by_cases he : er = 0
          · have e1 : (er != 0) = false := by simp [he]
            have hbe := ba_eq2 ag t
            by_cases ha : ag = t
            · rw [decide_eq_true ha] at hbe
              have HX : Hid (∀ k : Int, k = (n : Nat) → RDecPost t w (.returned (.tuple #[.int .u8 k, .string (t.extract 5 10), .int .i64 (nt : Nat), .int .i64 0])) w3) := (HFZ.out _ HB3.out).1 ⟨he, ha⟩
              clear HFZ
              go_wp2_with fail
              refine bodyPost_ret (results_tmp4 rfl _ _ _) rfl ?_
              exact HX.out _ (by omega)
            · rw [decide_eq_false ha] at hbe
              have HX := Lib.hid ((HFZ.out _ HB3.out).2 (fun x => ha x.2))
              clear HFZ
              go_wp2_with fail
              refine bodyPost_ret (results_tmp4 rfl _ _ _) rfl ?_
              exact HX.out
          · have e1 : (er != 0) = true := by simpa using he
            have HX := Lib.hid ((HFZ.out _ HB3.out).2 (fun x => he x.1))
            clear HFZ
            go_wp2_with fail
            refine bodyPost_ret (results_tmp4 rfl _ _ _) rfl ?_
            exact HX.out
        · have t1 : ((n : Int) == 1) = false := by simp; omega
          by_cases hn3 : n = 3
          · have t2 : ((n : Int) == 2) = false := by simp; omega
            have t3 : ((n : Int) == 3) = true := by simp; omega
            have hz : (t.extract 6 10).size ≤ 60000 := by rw [ByteArray.size_extract]; omega
            have HENZ : Hid (∀ (W : World) (k : Int), k = (n : Nat) → Calls Tryz.prog 18 #[.int .u8 k, .string (t.extract 6 10), .int .i64 (nt : Nat)] W fun e w' => e = .returned (.tuple #[.string (encR n (t.extract 6 10) nt).1, .int .i64 (encR n (t.extract 6 10) nt).2]) ∧ Below W.heap.size W w') := fun W k hk => by subst hk; exact HEN.out W (t.extract 6 10) hz
            have HFZ : Hid (∀ w', Below w.heap.size w w' → ((encR n (t.extract 6 10) nt).2 = 0 ∧ (encR n (t.extract 6 10) nt).1 = t → ∀ k : Int, k = (n : Nat) → RDecPost t w (.returned (.tuple #[.int .u8 k, .string (t.extract 6 10), .int .i64 (nt : Nat), .int .i64 0])) w') ∧ (¬ ((encR n (t.extract 6 10) nt).2 = 0 ∧ (encR n (t.extract 6 10) nt).1 = t) → RDecPost t w (.returned (.tuple #[.int .u8 0, .string ⟨#[]⟩, .int .i64 0, .int .i64 170])) w')) := fun w' hb => ⟨fun h k hk => by subst hk; exact (HF.out (t.extract 6 10) w' (by unfold codeRef; rw [if_neg hn1, if_neg (by omega), if_pos hn3]) hb).1 h, (HF.out (t.extract 6 10) w' (by unfold codeRef; rw [if_neg hn1, if_neg (by omega), if_pos hn3]) hb).2⟩
            obtain ⟨er, her⟩ : ∃ er, (encR n (t.extract 6 10) nt).2 = er := ⟨_, rfl⟩
            obtain ⟨ag, hag⟩ : ∃ ag, (encR n (t.extract 6 10) nt).1 = ag := ⟨_, rfl⟩
            rw [her, hag] at HENZ HFZ
            clear her hag hz HEN HF HVT HDR1 HD
            go_wp2_with fail
            refine (HENZ.out _ _ (by omega)).mono ?_
            rintro e w3 ⟨rfl, hb3⟩
            have HB3 := Lib.hid (HBX.out.trans (hb3.mono HBX.out.size))
            clear hb3 HENZ
            by_cases he : er = 0
            · have e1 : (er != 0) = false := by simp [he]
              have hbe := ba_eq2 ag t
              by_cases ha : ag = t
              · rw [decide_eq_true ha] at hbe
                have HX : Hid (∀ k : Int, k = (n : Nat) → RDecPost t w (.returned (.tuple #[.int .u8 k, .string (t.extract 6 10), .int .i64 (nt : Nat), .int .i64 0])) w3) := (HFZ.out _ HB3.out).1 ⟨he, ha⟩
                clear HFZ
                go_wp2_with fail
                refine bodyPost_ret (results_tmp4 rfl _ _ _) rfl ?_
                exact HX.out _ (by omega)
              · rw [decide_eq_false ha] at hbe
                have HX := Lib.hid ((HFZ.out _ HB3.out).2 (fun x => ha x.2))
                clear HFZ
                go_wp2_with fail
                refine bodyPost_ret (results_tmp4 rfl _ _ _) rfl ?_
                exact HX.out
            · have e1 : (er != 0) = true := by simpa using he
              have HX := Lib.hid ((HFZ.out _ HB3.out).2 (fun x => he x.1))
              clear HFZ
              go_wp2_with fail
              refine bodyPost_ret (results_tmp4 rfl _ _ _) rfl ?_
              exact HX.out
          · have t3 : ((n : Int) == 3) = false := by simp; omega
            by_cases hn2 : n = 2
            · have t2 : ((n : Int) == 2) = true := by simp; omega
              clear HDR1
              have HDRN : Hid (codeRef 2 t = none → ∀ w', Below w.heap.size w w' → RDecPost t w (.returned (.tuple #[.int .u8 0, .string ⟨#[]⟩, .int .i64 0, .int .i64 170])) w') := fun h w' hb => FN.out 170 w' (by rw [HDR2.out]; unfold decRef; rw [hn2, h]) hb
              clear FN HDR2
              have HN2 := Lib.hid hn2
              go_wp2_with fail
              clear t1 t2 t3 hn1 hn2 hn3
              go_loopw [10, 12] (fun c i wr => ∃ (m q : Nat) (z : ByteArray), m ≤ 3 ∧ q = 1 + 3 * m ∧ i = .int .i64 q ∧ c = .string z ∧ z.size ≤ 2 * m ∧ Hid (ReadTo t m z) ∧ Hid (Below w.heap.size w wr)) (fun _ i _ => 10 - (intOf i).toNat)
              case atStart => exact ⟨0, 1, _, by omega, by omega, rfl, rfl, Nat.zero_le _, readTo_zero t, HBX.out⟩
              case round =>
                obtain ⟨m, q, z, hm, hq, rfl, rfl, hzs, HR, HBY⟩ := hrel
                clear HBX
                by_cases hlt : q < 10
                · have hm3 : m < 3 := by omega
                  have HVQ : Hid (∀ W, Calls Tryz.prog 40 #[.string (t.extract q (q + 2))] W fun e w' => e = .returned (.int .i64 (numOf (t.extract q (q + 2)).data.toList : Nat)) ∧ W = w') := by subst hq; exact HVT.out m hm3
                  have HBAD : Hid (numOf (t.extract q (q + 2)).data.toList < 1 ∨ 26 < numOf (t.extract q (q + 2)).data.toList → codeRef 2 t = none) := by subst hq; exact readTo_bad H17.out HD.out hm3 HR.out
                  have HNXT : Hid (∀ v, numOf (t.extract q (q + 2)).data.toList = v → 1 ≤ v → v ≤ 26 → ReadTo t (m + 1) (z ++ (⟨#[UInt8.ofNat (64 + v)]⟩ ++ t.extract (q + 2) (q + 3)))) := by subst hq; exact fun v h1 h2 h3 => readTo_next H17.out HD.out hm3 HR.out h1 h2 h3
                  have hvb : numOf (t.extract q (q + 2)).data.toList < 1000000 := by
                    have h2 : (t.extract q (q + 2)).size ≤ 6 := by rw [ByteArray.size_extract]; omega
                    have := numOf_le (s := t.extract q (q + 2)) (digB_extract HD.out _ _) h2 6
                    rwa [List.take_of_length_le (by exact h2)] at this
                  generalize hv : numOf (t.extract q (q + 2)).data.toList = v at HVQ HBAD HNXT hvb
                  have HQ := Lib.hid hq
                  have hxs : (t.extract (q + 2) (q + 3)).size = 1 := by rw [ByteArray.size_extract]; omega
                  have hq1 : 1 ≤ q := by omega
                  have hzs6 : z.size ≤ 4 := by omega
                  have HZS := Lib.hid hzs
                  have hq9 : q ≤ 7 := by omega
                  have hvi : (v : Int) ≤ 999999 := by omega
                  have hvi0 : (0 : Int) ≤ (v : Int) := by omega
                  clear HVT HF HEN HR hq hzs hvb hv
                  by_cases hb1 : v < 1
                  · have HX := Lib.hid (HDRN.out (HBAD.out (.inl hb1)) _ HBY.out)
                    clear HDRN HBAD HNXT
                    go_wp2_with fail
                    refine (HVQ.out _).mono ?_
                    rintro e w3 ⟨rfl, rfl⟩
                    go_wp2_with fail
                    refine bodyPost_ret (results_tmp4 rfl _ _ _) rfl ?_
                    exact HX.out
                  · by_cases hb2 : 26 < v
                    · have HX := Lib.hid (HDRN.out (HBAD.out (.inr hb2)) _ HBY.out)
                      clear HDRN HBAD HNXT
                      go_wp2_with fail
                      refine (HVQ.out _).mono ?_
                      rintro e w3 ⟨rfl, rfl⟩
                      go_wp2_with fail
                      refine bodyPost_ret (results_tmp4 rfl _ _ _) rfl ?_
                      exact HX.out
                    · have HX := Lib.hid (HNXT.out v rfl (by omega) (by omega))
                      have hcv : Sem.run Tryz.prog (convert 27 9 (.slice (some ⟨wr.heap.size, 0, none⟩) 1 1)) (wr.alloc (.cells #[.int .u8 (64 + (v : Int))] 5)).drew = .ok (.string ⟨#[UInt8.ofNat (64 + v)]⟩) (wr.alloc (.cells #[.int .u8 (64 + (v : Int))] 5)).drew := conv_one wr.drew (UInt8.ofNat (64 + v)) (64 + (v : Int)) (by rw [UInt8.toNat_ofNat']; omega)
                      have hcs : (⟨#[UInt8.ofNat (64 + v)]⟩ : ByteArray).size = 1 := rfl
                      generalize (⟨#[UInt8.ofNat (64 + v)]⟩ : ByteArray) = cb at HX hcv hcs
                      obtain ⟨xb, hxb⟩ : ∃ xb, t.extract (q + 2) (q + 3) = xb := ⟨_, rfl⟩
                      rw [hxb] at HX hxs
                      have hov1 : ¬ 9223372036854775807 < cb.size + xb.size := by omega
                      have hov2 : ¬ 9223372036854775807 < z.size + (cb ++ xb).size := by rw [ByteArray.size_append]; omega
                      have hsz2 : (z ++ (cb ++ xb)).size ≤ 2 * (m + 1) := by rw [ByteArray.size_append, ByteArray.size_append]; have := HZS.out; omega
                      have HSZ := Lib.hid hsz2
                      have HBN := Lib.hid (HBY.out.alloc HBY.out.size (.cells #[.int .u8 (64 + (v : Int))] 5))
                      clear HDRN HBAD HNXT hsz2 hxs hcs
                      go_wp2_with fail
                      refine (HVQ.out _).mono ?_
                      rintro e w3 ⟨rfl, rfl⟩
                      clear HVQ
                      go_wp2_with fail
                      go_region
                      go_wp2_with fail
                      go_roundw
                      case rel => exact ⟨m + 1, q + 3, _, by omega, by have := HQ.out; omega, by go_num, rfl, HSZ.out, HX.out, HBN.out.drew⟩
                      case measure => simp [intOf]; omega
                · obtain rfl : m = 3 := by omega
                  obtain rfl : q = 10 := by omega
                  have HCR : Hid (codeRef 2 t = some z) := readTo_end H17.out HR.out
                  have HBX := HBY
                  have hz6 : z.size ≤ 60000 := by omega
                  clear HDRN HVT HR HBY hlt hzs hq hm
                  have hz : (z).size ≤ 60000 := hz6
                  have HENZ : Hid (∀ (W : World) (k : Int), k = (n : Nat) → Calls Tryz.prog 18 #[.int .u8 k, .string (z), .int .i64 (nt : Nat)] W fun e w' => e = .returned (.tuple #[.string (encR n (z) nt).1, .int .i64 (encR n (z) nt).2]) ∧ Below W.heap.size W w') := fun W k hk => by subst hk; exact HEN.out W (z) hz
                  have HFZ : Hid (∀ w', Below w.heap.size w w' → ((encR n (z) nt).2 = 0 ∧ (encR n (z) nt).1 = t → ∀ k : Int, k = (n : Nat) → RDecPost t w (.returned (.tuple #[.int .u8 k, .string (z), .int .i64 (nt : Nat), .int .i64 0])) w') ∧ (¬ ((encR n (z) nt).2 = 0 ∧ (encR n (z) nt).1 = t) → RDecPost t w (.returned (.tuple #[.int .u8 0, .string ⟨#[]⟩, .int .i64 0, .int .i64 170])) w')) := fun w' hb => ⟨fun h k hk => by subst hk; exact (HF.out (z) w' (by rw [HN2.out]; exact HCR.out) hb).1 h, (HF.out (z) w' (by rw [HN2.out]; exact HCR.out) hb).2⟩
                  obtain ⟨er, her⟩ : ∃ er, (encR n (z) nt).2 = er := ⟨_, rfl⟩
                  obtain ⟨ag, hag⟩ : ∃ ag, (encR n (z) nt).1 = ag := ⟨_, rfl⟩
                  rw [her, hag] at HENZ HFZ
                  clear her hag hz HEN HF HD
                  go_wp2_with fail
                  refine (HENZ.out _ _ (by omega)).mono ?_
                  rintro e w3 ⟨rfl, hb3⟩
                  have HB3 := Lib.hid (HBX.out.trans (hb3.mono HBX.out.size))
                  clear hb3 HENZ
                  by_cases he : er = 0
                  · have e1 : (er != 0) = false := by simp [he]
                    have hbe := ba_eq2 ag t
                    by_cases ha : ag = t
                    · rw [decide_eq_true ha] at hbe
                      have HX : Hid (∀ k : Int, k = (n : Nat) → RDecPost t w (.returned (.tuple #[.int .u8 k, .string (z), .int .i64 (nt : Nat), .int .i64 0])) w3) := (HFZ.out _ HB3.out).1 ⟨he, ha⟩
                      clear HFZ
                      go_wp2_with fail
                      refine bodyPost_ret (results_tmp4 rfl _ _ _) rfl ?_
                      exact HX.out _ (by omega)
                    · rw [decide_eq_false ha] at hbe
                      have HX := Lib.hid ((HFZ.out _ HB3.out).2 (fun x => ha x.2))
                      clear HFZ
                      go_wp2_with fail
                      refine bodyPost_ret (results_tmp4 rfl _ _ _) rfl ?_
                      exact HX.out
                  · have e1 : (er != 0) = true := by simpa using he
                    have HX := Lib.hid ((HFZ.out _ HB3.out).2 (fun x => he x.1))
                    clear HFZ
                    go_wp2_with fail
                    refine bodyPost_ret (results_tmp4 rfl _ _ _) rfl ?_
                    exact HX.out
            · have t2 : ((n : Int) == 2) = false := by simp; omega
              have hz : (⟨#[]⟩ : ByteArray).size ≤ 60000 := Nat.zero_le _
              have HENZ : Hid (∀ (W : World) (k : Int), k = (n : Nat) → Calls Tryz.prog 18 #[.int .u8 k, .string (⟨#[]⟩ : ByteArray), .int .i64 (nt : Nat)] W fun e w' => e = .returned (.tuple #[.string (encR n (⟨#[]⟩ : ByteArray) nt).1, .int .i64 (encR n (⟨#[]⟩ : ByteArray) nt).2]) ∧ Below W.heap.size W w') := fun W k hk => by subst hk; exact HEN.out W (⟨#[]⟩ : ByteArray) hz
              have HFZ : Hid (∀ w', Below w.heap.size w w' → ((encR n (⟨#[]⟩ : ByteArray) nt).2 = 0 ∧ (encR n (⟨#[]⟩ : ByteArray) nt).1 = t → ∀ k : Int, k = (n : Nat) → RDecPost t w (.returned (.tuple #[.int .u8 k, .string (⟨#[]⟩ : ByteArray), .int .i64 (nt : Nat), .int .i64 0])) w') ∧ (¬ ((encR n (⟨#[]⟩ : ByteArray) nt).2 = 0 ∧ (encR n (⟨#[]⟩ : ByteArray) nt).1 = t) → RDecPost t w (.returned (.tuple #[.int .u8 0, .string ⟨#[]⟩, .int .i64 0, .int .i64 170])) w')) := fun w' hb => ⟨fun h k hk => by subst hk; exact (HF.out (⟨#[]⟩ : ByteArray) w' (by unfold codeRef; rw [if_neg hn1, if_neg hn2, if_neg hn3]) hb).1 h, (HF.out (⟨#[]⟩ : ByteArray) w' (by unfold codeRef; rw [if_neg hn1, if_neg hn2, if_neg hn3]) hb).2⟩
              obtain ⟨er, her⟩ : ∃ er, (encR n (⟨#[]⟩ : ByteArray) nt).2 = er := ⟨_, rfl⟩
              obtain ⟨ag, hag⟩ : ∃ ag, (encR n (⟨#[]⟩ : ByteArray) nt).1 = ag := ⟨_, rfl⟩
              rw [her, hag] at HENZ HFZ
              clear her hag hz HEN HF HVT HDR1 HD
              go_wp2_with fail
              refine (HENZ.out _ _ (by omega)).mono ?_
              rintro e w3 ⟨rfl, hb3⟩
              have HB3 := Lib.hid (HBX.out.trans (hb3.mono HBX.out.size))
              clear hb3 HENZ
              by_cases he : er = 0
              · have e1 : (er != 0) = false := by simp [he]
                have hbe := ba_eq2 ag t
                by_cases ha : ag = t
                · rw [decide_eq_true ha] at hbe
                  have HX : Hid (∀ k : Int, k = (n : Nat) → RDecPost t w (.returned (.tuple #[.int .u8 k, .string (⟨#[]⟩ : ByteArray), .int .i64 (nt : Nat), .int .i64 0])) w3) := (HFZ.out _ HB3.out).1 ⟨he, ha⟩
                  clear HFZ
                  go_wp2_with fail
                  refine bodyPost_ret (results_tmp4 rfl _ _ _) rfl ?_
                  exact HX.out _ (by omega)
                · rw [decide_eq_false ha] at hbe
                  have HX := Lib.hid ((HFZ.out _ HB3.out).2 (fun x => ha x.2))
                  clear HFZ
                  go_wp2_with fail
                  refine bodyPost_ret (results_tmp4 rfl _ _ _) rfl ?_
                  exact HX.out
              · have e1 : (er != 0) = true := by simpa using he
                have HX := Lib.hid ((HFZ.out _ HB3.out).2 (fun x => he x.1))
                clear HFZ
                go_wp2_with fail
                refine bodyPost_ret (results_tmp4 rfl _ _ _) rfl ?_
                exact HX.out
theorem rDec_any (t : ByteArray) (w : World) (hs : t.size ≤ 60000) : Calls Tryz.prog 19 #[.string t] w (RDecPost t w) := by
  by_cases h : t.size = 17
  · cases hd : digB t
    · exact rDec_digits t w h hd
    · exact rDec_main t w h hd
  · exact rDec_size t w hs h
end Go.Proofs.YtgdlgfplheeblaaGreatDoor
