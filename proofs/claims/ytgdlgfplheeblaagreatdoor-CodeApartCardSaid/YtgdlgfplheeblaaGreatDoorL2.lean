/-
  letterbaglaw17.CodeApart: the walk.
-/
import Derived.Test.YtgdlgfplheeblaaGreatDoorKQ
import Derived.Deep.DeepCutAuto
namespace Go.Proofs.YtgdlgfplheeblaaGreatDoor
open Go.RowKit Go.Sort
set_option linter.unusedVariables false
set_option maxRecDepth 100000
set_option maxHeartbeats 16000000 in
theorem apart_core (c c' : UInt8) (f m : Nat → Nat) (x y : Nat) (w : World) (j k p q : Nat) (zb yb mb sb tb ub : ByteArray) (B1 B2 B3 B5 : Bool)
    (hB : B1 = true → B5 = B2) (hji : 1 + (c.toNat : Int) % 3 = (j : Int)) (hki : 1 + (c'.toNat : Int) % 3 = (k : Int)) (hpi : 1 + (x : Int) % 999999 = (p : Int)) (hqi : 1 + (y : Int) % 999999 = (q : Int))
    (hx : x < 2 ^ 32) (hy : y < 2 ^ 32) (h17 : sb.size = 17)
    (t1 : ((j : Int) == (k : Int)) = B1) (t2 : (zb.toList == yb.toList) = B2) (t3 : ((p : Int) == (q : Int)) = B3) (t4 : (sb.toList == tb.toList) = (B1 && B2 && B3)) (t5 : (sb.toList == ub.toList) = B5) (t6 : (zb.toList == mb.toList) = B5)
    (HZ : Hid (∀ W, Below w.heap.size w W → Calls Tryz.prog 13 #[.int .u8 (j : Nat), sixV f] W fun e w' => e = .returned (.string zb) ∧ Below W.heap.size W w'))
    (HY : Hid (∀ W, Below w.heap.size w W → Calls Tryz.prog 13 #[.int .u8 (k : Nat), sixV m] W fun e w' => e = .returned (.string yb) ∧ Below W.heap.size W w'))
    (HM : Hid (∀ W, Below w.heap.size w W → Calls Tryz.prog 13 #[.int .u8 (j : Nat), sixV m] W fun e w' => e = .returned (.string mb) ∧ Below W.heap.size W w'))
    (HS : Hid (∀ W, Below w.heap.size w W → Calls Tryz.prog 12 #[.int .u8 (j : Nat), .string zb, .int .i64 (p : Nat)] W fun e w' => e = .returned (.tuple #[.string sb, .int .i64 0]) ∧ Below W.heap.size W w'))
    (HT : Hid (∀ W, Below w.heap.size w W → Calls Tryz.prog 12 #[.int .u8 (k : Nat), .string yb, .int .i64 (q : Nat)] W fun e w' => e = .returned (.tuple #[.string tb, .int .i64 0]) ∧ Below W.heap.size W w'))
    (HU : Hid (∀ W, Below w.heap.size w W → Calls Tryz.prog 12 #[.int .u8 (j : Nat), .string mb, .int .i64 (p : Nat)] W fun e w' => e = .returned (.tuple #[.string ub, .int .i64 0]) ∧ Below W.heap.size W w'))
    (HA : Hid (∀ W, Below w.heap.size w W → Calls Tryz.prog 9 #[] W fun e w' => e = .returned (.bool true) ∧ Below W.heap.size W w')) :
    Calls Tryz.prog 7 #[.int .u8 c.toNat, .int .u8 c'.toNat, sixV f, sixV m, .int .u32 (x : Nat), .int .u32 (y : Nat)] w fun e w' => e = .returned (.bool true) ∧ Below w.heap.size w w' := by
  have hc1 : (c.toNat : Int) ≤ 255 := by have := c.toNat_lt; omega
  have hc2 : (c'.toNat : Int) ≤ 255 := by have := c'.toNat_lt; omega
  have hx1 : (x : Int) ≤ 4294967295 := by omega
  have hy1 : (y : Int) ≤ 4294967295 := by omega
  clear hx hy
  unfold sixV at HZ HY HM ⊢
  go_enter Tryz.func7, Tryz.ntmps7
  have HT2 : Hid ((zb.toList == yb.toList) = B2) := t2
  have HT1 : Hid (((j : Int) == (k : Int)) = B1) := t1
  have HT3 : Hid (((p : Int) == (q : Int)) = B3) := t3
  have HT4 : Hid ((sb.toList == tb.toList) = (B1 && B2 && B3)) := t4
  have HT5 : Hid ((sb.toList == ub.toList) = B5) := t5
  have HT6 : Hid ((zb.toList == mb.toList) = B5) := t6
  clear t1 t2 t3 t4 t5 t6
  go_wp2_with fail
  have HB0 : Hid (Below w.heap.size w ((w.alloc (.cells (sixC f) 28)).alloc (.cells (sixC m) 28))) := ((Below.refl _ w).alloc (Nat.le_refl _) _).alloc (by simp) _
  have HF0 : Hid (SixAt ((w.alloc (.cells (sixC f) 28)).alloc (.cells (sixC m) 28)) w.heap.size f) := SixAt.below (sixAt_new w f 28) (by simp) ((Below.refl _ _).alloc (Nat.le_refl _) _)
  have HM0 : Hid (SixAt ((w.alloc (.cells (sixC f) 28)).alloc (.cells (sixC m) 28)) (w.heap.size + 1) m) := by
    have h := sixAt_new (w.alloc (.cells (sixC f) 28)) m 28
    have e : (w.alloc (.cells (sixC f) 28)).heap.size = w.heap.size + 1 := by simp
    rw [e] at h
    exact h
  have hz0 : w.heap.size + 1 < ((w.alloc (.cells (sixC f) 28)).alloc (.cells (sixC m) 28)).heap.size := by simp
  unfold sixC at HB0 HF0 HM0 hz0
  refine (HZ.out _ HB0.out).mono ?_
  rintro e w1 ⟨rfl, hb1⟩
  have HB1 := Lib.hid (HB0.out.trans (hb1.mono HB0.out.size))
  have HF1 : Hid (SixAt w1 w.heap.size f) := HF0.out.below (by have := hz0; omega) hb1
  have HM1 : Hid (SixAt w1 (w.heap.size + 1) m) := HM0.out.below hz0 hb1
  have hz1 : w.heap.size + 1 < w1.heap.size := Nat.lt_of_lt_of_le hz0 hb1.size
  clear hb1 HF0 HM0 HB0 hz0
  go_wp2_with fail
  refine (HS.out _ HB1.out).mono ?_
  rintro e w2 ⟨rfl, hb2⟩
  have HB2 := Lib.hid (HB1.out.trans (hb2.mono HB1.out.size))
  have HF2 : Hid (SixAt w2 w.heap.size f) := HF1.out.below (by have := hz1; omega) hb2
  have HM2 : Hid (SixAt w2 (w.heap.size + 1) m) := HM1.out.below hz1 hb2
  have hz2 : w.heap.size + 1 < w2.heap.size := Nat.lt_of_lt_of_le hz1 hb2.size
  clear hb2 HF1 HM1 HB1 hz1
  have c0 := HM2.out 0 (by decide)
  have c1 := HM2.out 1 (by decide)
  have c2 := HM2.out 2 (by decide)
  have c3 := HM2.out 3 (by decide)
  have c4 := HM2.out 4 (by decide)
  have c5 := HM2.out 5 (by decide)
  go_wp2_with fail
  refine (HY.out _ HB2.out).mono ?_
  rintro e w3 ⟨rfl, hb3⟩
  have HB3 := Lib.hid (HB2.out.trans (hb3.mono HB2.out.size))
  have HF3 : Hid (SixAt w3 w.heap.size f) := HF2.out.below (by have := hz2; omega) hb3
  have HM3 : Hid (SixAt w3 (w.heap.size + 1) m) := HM2.out.below hz2 hb3
  have hz3 : w.heap.size + 1 < w3.heap.size := Nat.lt_of_lt_of_le hz2 hb3.size
  clear hb3 HF2 HM2 HB2 hz2
  clear c0 c1 c2 c3 c4 c5
  go_wp2_with fail
  refine (HT.out _ HB3.out).mono ?_
  rintro e w4 ⟨rfl, hb4⟩
  have HB4 := Lib.hid (HB3.out.trans (hb4.mono HB3.out.size))
  have HF4 : Hid (SixAt w4 w.heap.size f) := HF3.out.below (by have := hz3; omega) hb4
  have HM4 : Hid (SixAt w4 (w.heap.size + 1) m) := HM3.out.below hz3 hb4
  have hz4 : w.heap.size + 1 < w4.heap.size := Nat.lt_of_lt_of_le hz3 hb4.size
  clear hb4 HF3 HM3 HB3 hz3
  have c0 := HM4.out 0 (by decide)
  have c1 := HM4.out 1 (by decide)
  have c2 := HM4.out 2 (by decide)
  have c3 := HM4.out 3 (by decide)
  have c4 := HM4.out 4 (by decide)
  have c5 := HM4.out 5 (by decide)
  go_wp2_with fail
  refine (HM.out _ HB4.out).mono ?_
  rintro e w5 ⟨rfl, hb5⟩
  have HB5 := Lib.hid (HB4.out.trans (hb5.mono HB4.out.size))
  have HF5 : Hid (SixAt w5 w.heap.size f) := HF4.out.below (by have := hz4; omega) hb5
  have HM5 : Hid (SixAt w5 (w.heap.size + 1) m) := HM4.out.below hz4 hb5
  have hz5 : w.heap.size + 1 < w5.heap.size := Nat.lt_of_lt_of_le hz4 hb5.size
  clear hb5 HF4 HM4 HB4 hz4
  clear c0 c1 c2 c3 c4 c5
  go_wp2_with fail
  refine (HU.out _ HB5.out).mono ?_
  rintro e w6 ⟨rfl, hb6⟩
  have HB6 := Lib.hid (HB5.out.trans (hb6.mono HB5.out.size))
  have HF6 : Hid (SixAt w6 w.heap.size f) := HF5.out.below (by have := hz5; omega) hb6
  have HM6 : Hid (SixAt w6 (w.heap.size + 1) m) := HM5.out.below hz5 hb6
  have hz6 : w.heap.size + 1 < w6.heap.size := Nat.lt_of_lt_of_le hz5 hb6.size
  clear hb6 HF5 HM5 HB5 hz5
  go_wp2_with fail
  have CZ : Hid (∀ W, Below w6.heap.size w6 W → Calls Tryz.prog 13 #[.int .u8 (j : Nat), sixV f] W fun e w' => e = .returned (.string zb) ∧ Below W.heap.size W w') := fun W hW => HZ.out W (HB6.out.trans (hW.mono HB6.out.size))
  have CY : Hid (∀ W, Below w6.heap.size w6 W → Calls Tryz.prog 13 #[.int .u8 (k : Nat), sixV m] W fun e w' => e = .returned (.string yb) ∧ Below W.heap.size W w') := fun W hW => HY.out W (HB6.out.trans (hW.mono HB6.out.size))
  have CM : Hid (∀ W, Below w6.heap.size w6 W → Calls Tryz.prog 13 #[.int .u8 (j : Nat), sixV m] W fun e w' => e = .returned (.string mb) ∧ Below W.heap.size W w') := fun W hW => HM.out W (HB6.out.trans (hW.mono HB6.out.size))
  have CA : Hid (∀ W, Below w6.heap.size w6 W → Calls Tryz.prog 9 #[] W fun e w' => e = .returned (.bool true) ∧ Below W.heap.size W w') := fun W hW => HA.out W (HB6.out.trans (hW.mono HB6.out.size))
  unfold sixV at CZ CY CM
  have d0 := cells_in (HF6.out 0 (by decide))
  have e0 := cells_in (HM6.out 0 (by decide))
  have d1 := cells_in (HF6.out 1 (by decide))
  have e1 := cells_in (HM6.out 1 (by decide))
  have d2 := cells_in (HF6.out 2 (by decide))
  have e2 := cells_in (HM6.out 2 (by decide))
  have d3 := cells_in (HF6.out 3 (by decide))
  have e3 := cells_in (HM6.out 3 (by decide))
  have d4 := cells_in (HF6.out 4 (by decide))
  have e4 := cells_in (HM6.out 4 (by decide))
  have d5 := cells_in (HF6.out 5 (by decide))
  have e5 := cells_in (HM6.out 5 (by decide))
  clear HF6 HM6 HZ HY HM HS HT HU HA hji hki hpi hqi h17 hc1 hc2 hx1 hy1
  rcases B1 with _ | _
  · rcases B5 with _ | _
    all_goals
      have t1 := HT1.out
      have t2 := HT2.out
      have t3 := HT3.out
      have t4 : (sb.toList == tb.toList) = false := HT4.out
      have t5 := HT5.out
      have t6 := HT6.out
      clear HT1 HT2 HT3 HT4 HT5 HT6 hB
      refine wp_region_quiet_below (by kernel_rfl) (by kernel_rfl) ?_
      repeat (go_big_quiet_step ((first | (with_reducible exact regrown_in CZ.out _) | (with_reducible exact regrown_in CY.out _) | (with_reducible exact regrown_in CM.out _) | (with_reducible exact regrown_in CA.out _))))
      refine wpQuiet_nil ?_
      intro _ hw'
      obtain ⟨pp, hw''⟩ := hw'
      subst hw''
      go_wp2_with fail
      go_ret
      exact ⟨rfl, HB6.out.trans ((below_in w6 pp).mono HB6.out.size)⟩
  · obtain rfl : B5 = B2 := hB rfl
    rcases B5 with _ | _
    · have t1 := HT1.out
      have t2 := HT2.out
      have t3 := HT3.out
      have t4 : (sb.toList == tb.toList) = false := HT4.out
      have t5 := HT5.out
      have t6 := HT6.out
      clear HT1 HT2 HT3 HT4 HT5 HT6 hB
      refine wp_region_quiet_below (by kernel_rfl) (by kernel_rfl) ?_
      repeat (go_big_quiet_step ((first | (with_reducible exact regrown_in CZ.out _) | (with_reducible exact regrown_in CY.out _) | (with_reducible exact regrown_in CM.out _) | (with_reducible exact regrown_in CA.out _))))
      refine wpQuiet_nil ?_
      intro _ hw'
      obtain ⟨pp, hw''⟩ := hw'
      subst hw''
      go_wp2_with fail
      go_ret
      exact ⟨rfl, HB6.out.trans ((below_in w6 pp).mono HB6.out.size)⟩
    · rcases B3 with _ | _
      all_goals
        have t1 := HT1.out
        have t2 := HT2.out
        have t3 := HT3.out
        first
        | have t4 : (sb.toList == tb.toList) = false := HT4.out
        | have t4 : (sb.toList == tb.toList) = true := HT4.out
        have t5 := HT5.out
        have t6 := HT6.out
        clear HT1 HT2 HT3 HT4 HT5 HT6 hB
        refine wp_region_quiet_below (by kernel_rfl) (by kernel_rfl) ?_
        repeat (go_big_quiet_step ((first | (with_reducible exact regrown_in CZ.out _) | (with_reducible exact regrown_in CY.out _) | (with_reducible exact regrown_in CM.out _) | (with_reducible exact regrown_in CA.out _))))
        refine wpQuiet_nil ?_
        intro _ hw'
        obtain ⟨pp, hw''⟩ := hw'
        subst hw''
        go_wp2_with fail
        go_ret
        exact ⟨rfl, HB6.out.trans ((below_in w6 pp).mono HB6.out.size)⟩
theorem ba_mk_inj {a b : List UInt8} : (⟨a.toArray⟩ : ByteArray) = ⟨b.toArray⟩ ↔ a = b := by
  constructor
  · intro h
    have := congrArg (fun x : ByteArray => x.data.toList) h
    simpa using this
  · rintro rfl; rfl
theorem enc_same {j k : Nat} (hj : j = 1 ∨ j = 2 ∨ j = 3) (hk : k = 1 ∨ k = 2 ∨ k = 3) {l l' : List UInt8} (h : matchesB l (patOf j) = true) (h' : matchesB l' (patOf k) = true) {p q : Nat} (hp1 : 1 ≤ p) (hp2 : p ≤ 999999) (hq1 : 1 ≤ q) (hq2 : q ≤ 999999) :
    encB j l p = encB k l' q ↔ (j = k ∧ l = l') ∧ p = q := by
  constructor
  · intro he
    obtain ⟨a, b, c⟩ := enc_inj hj hk h h' hp1 hp2 hq1 hq2 he
    exact ⟨⟨a, b⟩, c⟩
  · rintro ⟨⟨rfl, rfl⟩, rfl⟩; rfl
theorem codeApart_walk (c c' : UInt8) (f m : Nat → Nat) (x y : Nat) (w : World) (hf : ∀ i, f i < 256) (hm : ∀ i, m i < 256) (hx : x < 2 ^ 32) (hy : y < 2 ^ 32) (ht : TabW w) (hg : 3 < w.heap.size) :
    Calls Tryz.prog 7 #[.int .u8 c.toNat, .int .u8 c'.toNat, sixV f, sixV m, .int .u32 (x : Nat), .int .u32 (y : Nat)] w fun e w' => e = .returned (.bool true) ∧ Below w.heap.size w w' := by
  obtain ⟨j, hj⟩ : ∃ j, 1 + c.toNat % 3 = j := ⟨_, rfl⟩
  obtain ⟨k, hk⟩ : ∃ k, 1 + c'.toNat % 3 = k := ⟨_, rfl⟩
  obtain ⟨p, hp⟩ : ∃ p, 1 + x % 999999 = p := ⟨_, rfl⟩
  obtain ⟨q, hq⟩ : ∃ q, 1 + y % 999999 = q := ⟨_, rfl⟩
  have hj3 : j = 1 ∨ j = 2 ∨ j = 3 := by omega
  have hk3 : k = 1 ∨ k = 2 ∨ k = 3 := by omega
  have P1 := pay_of hj3 (zipL_ok j f) (p := p) (by omega) (by omega)
  have P2 := pay_of hk3 (zipL_ok k m) (p := q) (by omega) (by omega)
  have P3 := pay_of hj3 (zipL_ok j m) (p := p) (by omega) (by omega)
  have hz : ∀ (j : Nat) (f : Nat → Nat), (j = 1 ∨ j = 2 ∨ j = 3) → (⟨(zipL j f).toArray⟩ : ByteArray).size ≤ maxLen := fun j f h => by rw [ba_mk_size, zipL_len]; have := patOf_len h; unfold maxLen; omega
  refine apart_core c c' f m x y w j k p q ⟨(zipL j f).toArray⟩ ⟨(zipL k m).toArray⟩ ⟨(zipL j m).toArray⟩ (encB j (zipL j f) p) (encB k (zipL k m) q) (encB j (zipL j m) p)
    (decide (j = k)) (decide (zipL j f = zipL k m)) (decide (p = q)) (decide (zipL j f = zipL j m))
    (fun h => by rw [of_decide_eq_true h]) (by omega) (by omega) (by omega) (by omega) hx hy P1.size ?_ ?_ ?_ ?_ ?_ ?_ (fun W _ => zip_any j f W hj3 hf) (fun W _ => zip_any k m W hk3 hm) (fun W _ => zip_any j m W hj3 hm)
    (enc_in j p _ P1.enc (hz j f hj3) ht hg) (enc_in k q _ P2.enc (hz k m hk3) ht hg) (enc_in j p _ P3.enc (hz j m hj3) ht hg) (fun W hB => awake_any W (ht.below hB hg) (Nat.lt_of_lt_of_le hg hB.size))
  · rw [Bool.eq_iff_iff, beq_iff_eq, decide_eq_true_eq]; omega
  · rw [ba_eq2, Bool.eq_iff_iff, decide_eq_true_eq, decide_eq_true_eq, ba_mk_inj]
  · rw [Bool.eq_iff_iff, beq_iff_eq, decide_eq_true_eq]; omega
  · rw [ba_eq2, Bool.eq_iff_iff, decide_eq_true_eq, enc_same hj3 hk3 (zipL_ok j f) (zipL_ok k m) (by omega) (by omega) (by omega) (by omega), Bool.and_eq_true, Bool.and_eq_true, decide_eq_true_eq, decide_eq_true_eq, decide_eq_true_eq]
  · rw [ba_eq2, Bool.eq_iff_iff, decide_eq_true_eq, enc_same hj3 hj3 (zipL_ok j f) (zipL_ok j m) (by omega) (by omega) (by omega) (by omega), decide_eq_true_eq]
    simp
  · rw [ba_eq2, Bool.eq_iff_iff, decide_eq_true_eq, decide_eq_true_eq, ba_mk_inj]
end Go.Proofs.YtgdlgfplheeblaaGreatDoor
