/-
  The reference of layer 23: Right.
-/
import Derived.Test.YtdahgfopighhlaaU3
import Derived.Test.YtdahgfopighhlaaS9
namespace Go.Proofs.Ytdahgfopighhlaa
open Go.RowKit Go.Sort
set_option linter.unusedVariables false
set_option maxRecDepth 100000
theorem sumTo_bound {ls : List Lev} (hf : ∀ l ∈ ls, LevFits l) : ∀ k, sumTo ls k ≤ k * 100000
  | 0 => by simp [sumTo]
  | k + 1 => by
    have ih := sumTo_bound hf k
    by_cases h : k < ls.length
    · rw [sumTo_succ ls k h]
      have := (hf _ (List.getElem_mem h)).2.1
      omega
    · have : sumTo ls (k + 1) = sumTo ls k := by unfold sumTo; rw [List.take_of_length_le (by omega), List.take_of_length_le (by omega)]
      omega
/-- What the reference has checked of the first levels. -/
def okR (ls : List Lev) (k : Nat) : Prop := okTo ls k ∧ ∀ i, i + 1 < k → ∀ h : i + 1 < ls.length, nestedB ls[i] ls[i + 1] = true
theorem right_small (ls : List Lev) (v : Value) (w : World) (hv : ∃ a cap, v = .slice a ls.length cap) (h : ls.length < 1 ∨ 6 < ls.length) (hl : ls.length ≤ maxLen) :
    Calls Try.prog 38 #[v] w fun e w' => e = .returned (.bool (rightB ls)) ∧ Below w.heap.size w w' := by
  obtain ⟨a, cap, rfl⟩ := hv
  have HR : Hid (rightB ls = false) := rightB_false (fun h' => by have := h'.1; have := h'.2.1; omega)
  unfold maxLen at hl
  generalize rightB ls = r at HR
  generalize ls.length = n at h hl
  rcases h with h | h
  · have d1 : decide ((n : Int) < 1) = true := decide_eq_true (by omega)
    clear h
    go_enter Try.func38, Try.ntmps38
    go_wp2_with fail
    go_ret
    exact ⟨ret_bool HR.out.symm, Below.refl _ _⟩
  · have d1 : decide ((n : Int) < 1) = false := decide_eq_false (by omega)
    have d2 : decide (6 < (n : Int)) = true := decide_eq_true (by omega)
    clear h
    go_enter Try.func38, Try.ntmps38
    go_wp2_with fail
    go_ret
    exact ⟨ret_bool HR.out.symm, Below.refl _ _⟩
set_option maxHeartbeats 16000000 in
theorem rRight_main (ls : List Lev) (v : Value) (w : World) (hr : RdLevs w v ls) (hf : ∀ l ∈ ls, LevFits l) (h1 : 1 ≤ ls.length) (h6 : ls.length ≤ 6) :
    Calls Try.prog 38 #[v] w fun e w' => e = .returned (.bool (rightB ls)) ∧ Below w.heap.size w w' := by
  obtain ⟨a, cap, rfl, hc⟩ := hr
  obtain ⟨g, off, rfl, hg, hcc⟩ := hc (by omega)
  have HC := Lib.hid hcc
  have HF := Lib.hid hf
  have d1 : decide ((ls.length : Int) < 1) = false := decide_eq_false (by omega)
  have d2 : decide (6 < (ls.length : Int)) = false := decide_eq_false (by omega)
  clear hcc hf hc
  go_enter Try.func38, Try.ntmps38
  go_wp2_with fail
  go_loop [3, 4] (fun s i => ∃ k : Nat, k ≤ ls.length ∧ i = .int .i64 k ∧ s = .int .i64 (sumTo ls k : Nat)) (fun _ i => ls.length - (intOf i).toNat)
  case atStart => exact ⟨0, Nat.zero_le _, rfl, rfl⟩
  case round =>
    obtain ⟨k, hk, rfl, rfl⟩ := hrel
    by_cases hlt : k < ls.length
    · obtain ⟨sv, hlab, hat⟩ := HC.out k hlt
      obtain ⟨t0, t1, t2, t3, t4⟩ := hat
      obtain ⟨la, lc, rfl, _⟩ := hlab
      have hsb := sumTo_bound HF.out k
      have hll := (HF.out _ (List.getElem_mem hlt)).2.1
      have HS := Lib.hid (sumTo_succ ls k hlt)
      generalize ls[k].labs.length = m at t2 HS hll
      generalize sumTo ls k = sk at hsb HS ⊢
      have hd : decide ((k : Int) < (ls.length : Int)) = true := decide_eq_true (by omega)
      clear t0 t1 t3 t4 HC
      go_wp2_with fail
      go_round
      case rel => exact ⟨k + 1, by omega, by go_num, by rw [HS.out]; first | rfl | (congr 1; omega)⟩
      case measure => simp [intOf]; omega
    · obtain rfl : k = ls.length := by omega
      by_cases hsum : 200 < sumTo ls ls.length
      · have hd2 : decide (200 < ((sumTo ls ls.length : Nat) : Int)) = true := decide_eq_true (by omega)
        have HR : Hid (rightB ls = false) := rightB_false (fun h' => by have := h'.2.2.1.1; omega)
        generalize sumTo ls ls.length = sk at hd2 ⊢
        go_wp2_with fail
        go_ret
        exact ⟨ret_bool HR.out.symm, Below.refl _ _⟩
      · have hd2 : decide (200 < ((sumTo ls ls.length : Nat) : Int)) = false := decide_eq_false (by omega)
        have HSUM : Hid (∀ k, k ≤ ls.length → sumTo ls k ≤ 200) := fun k hk => by have := sumTo_mono ls hk; omega
        generalize sumTo ls ls.length = sk at hd2 ⊢
        clear hsum
        go_wp2_with fail
        go_loopw [5] (fun i wr => ∃ k : Nat, k ≤ ls.length ∧ i = .int .i64 k ∧ Hid (okR ls k) ∧ Hid (Below w.heap.size w wr)) (fun i _ => ls.length - (intOf i).toNat)
        case atStart => exact ⟨0, Nat.zero_le _, rfl, ⟨⟨HSUM.out 0 (Nat.zero_le _), fun i h => by omega, fun i h => by omega, fun i h => by omega⟩, fun i h => by omega⟩, Below.refl _ _⟩
        case round =>
          obtain ⟨k, hk, rfl, hok, HB⟩ := hrel
          clear hlt hd2
          by_cases hlt : k < ls.length
          · have hlab0 := HC.out k hlt
            obtain ⟨sv, hlab, hat⟩ := hlab0
            obtain ⟨t0, t1, t2, t3, t4⟩ := hat.below HB.out hg
            have hlf := HF.out _ (List.getElem_mem hlt)
            have N3 := Lib.hid (not_right_level hlt)
            have N2 : Hid (∀ j (hj : j < k), (ls[j]'(by omega)).name = ls[k].name → rightB ls = false) := fun j hj h => not_right_name hlt hj h
            have OKK : Hid (levelB ls[k] (decide (k + 1 = ls.length)) = true → (∀ j, j < k → ∀ h' : j < ls.length, ls[j].name ≠ ls[k].name) → (∀ j, j + 1 = k → ∀ h' : j < ls.length, ls[k].pre ≤ ls[j].pre) → (∀ j, j + 1 = k → ∀ h' : j < ls.length, nestedB ls[j] ls[k] = true) → okR ls (k + 1)) := fun a b c d =>
              ⟨okTo_succ hok.out.1 hlt (HSUM.out (k + 1) hlt) a b c, fun i hi h => by
                by_cases e : i + 1 = k
                · have := d i e (by omega)
                  subst e; exact this
                · exact hok.out.2 i (by omega) h⟩
            have hlevels : Hid (∀ j, j < k → ∀ h' : j < ls.length, levelB ls[j] (decide (j + 1 = ls.length)) = true) := hok.out.1.2.1
            have HPREV : Hid (∀ j, j + 1 = k → levelB ls[k] (decide (k + 1 = ls.length)) = true → ∃ (m : Lev) (sm : Value), RdLabs w sm m.labs ∧ LevAt w g (off + j * 5) m sm ∧ LevFits m ∧ (m.pre < ls[k].pre → rightB ls = false) ∧ (nestedB m ls[k] = false → rightB ls = false) ∧
                (ls[k].pre ≤ m.pre → ∀ W, Below w.heap.size w W → Calls Try.prog 54 #[lvA m sm, lvA ls[k] sv] W fun e w' => e = .returned (.bool (nestedB m ls[k])) ∧ Below W.heap.size W w') ∧
                (ls[k].pre ≤ m.pre → nestedB m ls[k] = true → (∀ j, j + 1 = k → ∀ h' : j < ls.length, ls[k].pre ≤ ls[j].pre) ∧ (∀ j, j + 1 = k → ∀ h' : j < ls.length, nestedB ls[j] ls[k] = true))) := fun j hj hlev => by
              have hjl : j < ls.length := by omega
              obtain ⟨sm, hm, hmat⟩ := HC.out j hjl
              obtain ⟨f1, f2, f3, f4⟩ := level_facts (hlevels.out j (by omega) hjl)
              obtain ⟨k1, k2, k3, k4⟩ := level_facts hlev
              refine ⟨ls[j], sm, hm, hmat, HF.out _ (List.getElem_mem hjl), fun h => ?_, fun h => ?_, fun h W hW => rNested_any ls[j] ls[k] sm sv W (HF.out _ (List.getElem_mem hjl)) hlf (hm.below hW) (hlab.below hW) f1 f2 k3 h f4, fun h h' => ⟨fun i hi hi' => ?_, fun i hi hi' => ?_⟩⟩
              · subst hj; exact not_right_pre hlt h
              · subst hj; exact not_right_nest hlt h
              · obtain rfl : i = j := by omega
                exact h
              · obtain rfl : i = j := by omega
                exact h'
            have hlt2 : ((k : Int) == (ls.length : Int) - 1) = decide (k + 1 = ls.length) := by rw [Bool.eq_iff_iff]; simp; omega
            have HLV := Lib.hid (rLevel_any ls[k] sv (decide (k + 1 = ls.length)) wr hlf (hlab.below HB.out))
            have HNM : Hid (∀ j, j < k → ∃ q : ByteArray, w.cell? ⟨g, off + j * 5, none⟩ = some (.string q) ∧ (q = ls[k].name → rightB ls = false) ∧ (q ≠ ls[k].name → ∀ h' : j < ls.length, ls[j].name ≠ ls[k].name)) := fun j hj => by
              obtain ⟨_, _, hm⟩ := HC.out j (by omega)
              exact ⟨_, hm.1, fun h => N2.out j hj h, fun h _ => h⟩
            have hat0 := hat
            obtain ⟨s0, s1, s2, s3, s4⟩ := hat
            have HS0 := Lib.hid s0
            have HAT := Lib.hid hat0
            clear hat0 s0 s1 s2 s3 s4 N2 hlevels hok HSUM hlab hlf
            unfold lvA at HLV HPREV
            have HNAME : Hid (∀ j, j < k + 1 → (∀ i, i < j → ∀ h' : i < ls.length, ls[i].name ≠ ls[k].name) → (∀ h' : j < ls.length, ls[j].name ≠ ls[k].name) → ∀ i, i < j + 1 → ∀ h' : i < ls.length, ls[i].name ≠ ls[k].name) := fun j _ h h2 => upto_succ (P := fun i => ∀ h' : i < ls.length, ls[i].name ≠ ls[k].name) h h2
            generalize decide (k + 1 = ls.length) = lastB at hlt2 N3 OKK HPREV HLV
            obtain ⟨l, hl⟩ : ∃ l, ls[k] = l := ⟨_, rfl⟩
            rw [hl] at t0 t1 t3 t4 N3 OKK HPREV HLV HNM HS0 HAT HNAME
            clear hl HC HF
            have hd : decide ((k : Int) < (ls.length : Int)) = true := decide_eq_true (by omega)
            have hgr : g < wr.heap.size := Nat.lt_of_lt_of_le hg HB.out.size
            have hk1 : 1 ≤ (ls.length : Int) := by omega
            cases hlev : levelB l lastB
            · have HR := Lib.hid (N3.out hlev)
              rw [hlev] at HLV
              clear N3 OKK HPREV HNM HNAME
              go_wp2_with fail
              refine HLV.out.mono ?_
              rintro e w2 ⟨rfl, hb2⟩
              have HB2 := Lib.hid (HB.out.trans (hb2.mono HB.out.size))
              clear hb2
              go_wp2_with fail
              go_ret
              exact ⟨ret_bool HR.out.symm, HB2.out⟩
            · rw [hlev] at HLV
              have OK2 := Lib.hid (OKK.out hlev)
              have HP2 := Lib.hid (fun j hj => HPREV.out j hj hlev)
              clear N3 OKK HPREV hlev
              go_wp2_with fail
              refine HLV.out.mono ?_
              rintro e w2 ⟨rfl, hb2⟩
              have HB2 := Lib.hid (HB.out.trans (hb2.mono HB.out.size))
              clear hb2 HLV t0 t1 t2 t3 t4 HB hgr
              go_wp2_with fail
              go_loopw [6] (fun i wr => ∃ j : Nat, j ≤ k ∧ i = .int .i64 j ∧ Hid (∀ i, i < j → ∀ h' : i < ls.length, ls[i].name ≠ l.name) ∧ Hid (Below w.heap.size w wr)) (fun i _ => k - (intOf i).toNat)
              case atStart => exact ⟨0, Nat.zero_le _, rfl, fun i h => by omega, HB2.out⟩
              case round =>
                obtain ⟨j, hj, rfl, hnm, HB3⟩ := hrel
                clear hlt2
                by_cases hjk : j < k
                · obtain ⟨q, hq, hq1, hq2⟩ := HNM.out j hjk
                  have c1 := cells_in ((HB3.out.cell (p := ⟨g, off + j * 5, none⟩) hg).trans hq)
                  have c2 := cells_in ((HB3.out.cell (p := ⟨g, off + k * 5, none⟩) hg).trans HS0.out)
                  have hdj : decide ((j : Int) < (k : Int)) = true := decide_eq_true (by omega)
                  have hjn : j < ls.length := by omega
                  have hbe := ba_eq q l.name
                  have HBN : Hid (∀ pp : Regrown, Below w.heap.size w (grow (redrawn wr pp.d) pp.os)) := fun pp => HB3.out.trans ((below_in wr pp).mono HB3.out.size)
                  clear HNM hq
                  by_cases he : q = l.name
                  · rw [decide_eq_true he] at hbe
                    have HR := Lib.hid (hq1 he)
                    clear hq1 hq2 hnm he
                    go_wp2_with fail
                    refine wp_region_quiet_below (by kernel_rfl) (by kernel_rfl) ?_
                    repeat (go_big_quiet_step (fail))
                    refine wpQuiet_nil ?_
                    intro _ hw'
                    obtain ⟨pp, hw''⟩ := hw'
                    subst hw''
                    go_wp2_with fail
                    go_ret
                    exact ⟨ret_bool HR.out.symm, HBN.out pp⟩
                  · rw [decide_eq_false he] at hbe
                    have HR := Lib.hid (HNAME.out j (by omega) hnm.out (hq2 he))
                    clear hq1 hq2 hnm he
                    go_wp2_with fail
                    refine wp_region_quiet_below (by kernel_rfl) (by kernel_rfl) ?_
                    repeat (go_big_quiet_step (fail))
                    refine wpQuiet_nil ?_
                    intro _ hw'
                    obtain ⟨pp, hw''⟩ := hw'
                    subst hw''
                    go_wp2_with fail
                    go_roundw
                    case rel => exact ⟨j + 1, by omega, by go_num, HR.out, HBN.out pp⟩
                    case measure => simp [intOf]; omega
                · obtain rfl : j = k := by omega
                  have OK3 := Lib.hid (OK2.out hnm.out)
                  have hdj : decide ((j : Int) < (j : Int)) = false := decide_eq_false (by omega)
                  have HBN : Hid (∀ pp : Regrown, Below w.heap.size w (grow (redrawn wr pp.d) pp.os)) := fun pp => HB3.out.trans ((below_in wr pp).mono HB3.out.size)
                  obtain ⟨t0, t1, t2, t3, t4⟩ := HAT.out.below HB3.out hg
                  have t0 := cells_in t0
                  have t1 := cells_in t1
                  have t2 := cells_in t2
                  have t3 := cells_in t3
                  have t4 := cells_in t4
                  clear hnm OK2 HNM HNAME hj hjk
                  by_cases k0 : 0 < j
                  · obtain ⟨m, sm, hm, hmat, hmf, hm1, hm2, hm3, hm4⟩ := HP2.out (j - 1) (by omega)
                    obtain ⟨p0, p1, p2, p3, p4⟩ := hmat.below HB3.out hg
                    have p0 := cells_in p0
                    have p1 := cells_in p1
                    have p2 := cells_in p2
                    have p3 := cells_in p3
                    have p4 := cells_in p4
                    have HM1 := Lib.hid hm1
                    have HM2 := Lib.hid hm2
                    have HM3 := Lib.hid hm3
                    have HM4 := Lib.hid hm4
                    have hd1 : decide (0 < j) = true := by simpa using k0
                    have hd2 : decide ((0 : Int) < (j : Int)) = true := by simp; omega
                    have hv2 : 0 ≤ (j : Int) - 1 := by omega
                    have hv3 : ((j : Int) - 1).toNat = j - 1 := by omega
                    have hv4 : (j : Int) - 1 < (ls.length : Int) := by omega
                    have hv5 : 1 ≤ j := by omega
                    have hv6 : j - 1 < ls.length := by omega
                    have hv1 : IntKind.i64.wrap ((j : Int) - 1) = (j : Int) - 1 := IntWalk.i64_in _ (by omega)
                    clear hm hmat hmf hm1 hm2 hm3 hm4 HP2
                    by_cases hlp : m.pre < l.pre
                    · have hlp2 : decide (m.pre < l.pre) = true := decide_eq_true hlp
                      have HE := Lib.hid (HM1.out hlp)
                      clear HM1 HM2 HM3 HM4 OK3
                      go_wp2_with fail
                      refine wp_region_quiet_below (by kernel_rfl) (by kernel_rfl) ?_
                      repeat (go_big_quiet_step (fail))
                      refine wpQuiet_nil ?_
                      intro _ hw'
                      obtain ⟨pp, hw''⟩ := hw'
                      subst hw''
                      clear hv1
                      go_wp2_with fail
                      go_ret
                      exact ⟨ret_bool HE.out.symm, HBN.out pp⟩
                    · have hlp2 : decide (m.pre < l.pre) = false := decide_eq_false hlp
                      have hle : l.pre ≤ m.pre := by omega
                      have CN : Hid (∀ W, Below wr.heap.size wr W → Calls Try.prog 54 #[.agg #[.string m.name, .int .i64 m.pre, sm, .int .i64 m.min, .int .i64 m.cents], .agg #[.string l.name, .int .i64 l.pre, sv, .int .i64 l.min, .int .i64 l.cents]] W fun e w' => e = .returned (.bool (nestedB m l)) ∧ Below W.heap.size W w') := fun W hW => HM3.out hle W (HB3.out.trans (hW.mono HB3.out.size))
                      have HM5 := Lib.hid (HM4.out hle)
                      generalize nestedB m l = nb at CN HM2 HM5
                      clear HM3 HM4 HM1
                      cases nb
                      · have HE := Lib.hid (HM2.out rfl)
                        clear HM2 HM5 OK3 hlp hle
                        go_wp2_with fail
                        refine wp_region_quiet_below (by kernel_rfl) (by kernel_rfl) ?_
                        repeat (go_big_quiet_step ((with_reducible exact regrown_in CN.out _)))
                        refine wpQuiet_nil ?_
                        intro _ hw'
                        obtain ⟨pp, hw''⟩ := hw'
                        subst hw''
                        clear hv1
                        go_wp2_with fail
                        go_ret
                        exact ⟨ret_bool HE.out.symm, HBN.out pp⟩
                      · have HE := Lib.hid (OK3.out (HM5.out rfl).1 (HM5.out rfl).2)
                        clear HM2 HM5 OK3 hlp hle
                        go_wp2_with fail
                        refine wp_region_quiet_below (by kernel_rfl) (by kernel_rfl) ?_
                        repeat (go_big_quiet_step ((with_reducible exact regrown_in CN.out _)))
                        refine wpQuiet_nil ?_
                        intro _ hw'
                        obtain ⟨pp, hw''⟩ := hw'
                        subst hw''
                        clear hv1
                        go_wp2_with fail
                        go_roundw
                        case rel => exact ⟨j + 1, by omega, by go_num, HE.out, HBN.out pp⟩
                        case measure => simp [intOf]; omega
                  · have hd1 : decide (0 < j) = false := by simp; omega
                    have hd2 : decide ((0 : Int) < (j : Int)) = false := by simp; omega
                    have HE := Lib.hid (OK3.out (fun i hi => by omega) (fun i hi => by omega))
                    clear OK3 HP2
                    go_wp2_with fail
                    refine wp_region_quiet_below (by kernel_rfl) (by kernel_rfl) ?_
                    repeat (go_big_quiet_step (fail))
                    refine wpQuiet_nil ?_
                    intro _ hw'
                    obtain ⟨pp, hw''⟩ := hw'
                    subst hw''
                    go_wp2_with fail
                    go_roundw
                    case rel => exact ⟨j + 1, by omega, by go_num, HE.out, HBN.out pp⟩
                    case measure => simp [intOf]; omega
          · obtain rfl : k = ls.length := by omega
            have HR : Hid (rightB ls = true) := rightB_iff.2 ⟨h1, h6, hok.out.1, fun i hi => hok.out.2 i hi hi⟩
            go_wp2_with fail
            go_ret
            exact ⟨ret_bool HR.out.symm, HB.out⟩
theorem rRight_any (ls : List Lev) (v : Value) (w : World) (hr : RdLevs w v ls) (hf : ∀ l ∈ ls, LevFits l) (hl : ls.length ≤ maxLen) :
    Calls Try.prog 38 #[v] w fun e w' => e = .returned (.bool (rightB ls)) ∧ Below w.heap.size w w' := by
  by_cases h : ls.length < 1 ∨ 6 < ls.length
  · exact right_small ls v w (by obtain ⟨a, cap, h, _⟩ := hr; exact ⟨a, cap, h⟩) h hl
  · exact rRight_main ls v w hr hf (by omega) (by omega)
end Go.Proofs.Ytdahgfopighhlaa
