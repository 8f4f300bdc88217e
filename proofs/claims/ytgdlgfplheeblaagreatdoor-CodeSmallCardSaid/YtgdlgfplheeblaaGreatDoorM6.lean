/-
  The reference's Encode of layer 17: at any arguments it returns what the program's returns.
-/
import Derived.Test.YtgdlgfplheeblaaGreatDoorM4
import Derived.Test.YtgdlgfplheeblaaGreatDoorM5
import Derived.Test.YtgdlgfplheeblaaGreatDoorKI
namespace Go.Proofs.YtgdlgfplheeblaaGreatDoor
open Go.RowKit Go.Sort
set_option linter.unusedVariables false
set_option maxRecDepth 100000
theorem rEnc_range (c p : Int) (s : ByteArray) (w : World) (hc : 0 ≤ c) (h : c < 1 ∨ 3 < c ∨ p < 1 ∨ 999999 < p) :
    Calls Tryz.prog 18 #[.int .u8 c, .string s, .int .i64 p] w fun e w' => e = .returned (.tuple #[.string ⟨#[]⟩, .int .i64 2]) ∧ Below w.heap.size w w' := by
  by_cases h1 : c < 1
  · obtain rfl : c = 0 := by omega
    go_enter Tryz.func18, Tryz.ntmps18
    go_wp2
    go_ret2
    exact ⟨rfl, Below.refl _ _⟩
  · have d1 : (c == 0) = false := by simp; omega
    by_cases h2 : 3 < c
    · have d2 : decide (3 < c) = true := decide_eq_true h2
      go_enter Tryz.func18, Tryz.ntmps18
      go_wp2
      go_ret2
      exact ⟨rfl, Below.refl _ _⟩
    · have d2 : decide (3 < c) = false := decide_eq_false h2
      by_cases h3 : p < 1
      · have d3 : decide (p < 1) = true := decide_eq_true h3
        go_enter Tryz.func18, Tryz.ntmps18
        go_wp2
        go_ret2
        exact ⟨rfl, Below.refl _ _⟩
      · have d3 : decide (p < 1) = false := decide_eq_false h3
        have h4 : 999999 < p := by omega
        have d4 : decide (999999 < p) = true := decide_eq_true h4
        go_enter Tryz.func18, Tryz.ntmps18
        go_wp2
        go_ret2
        exact ⟨rfl, Below.refl _ _⟩
theorem rCode_any (c : Int) (s : ByteArray) (w : World) (hs : s.size ≤ 60000) : Calls Tryz.prog 34 #[.int .u8 c, .string s] w fun e w' =>
    ∃ t : ByteArray, t.data.toList = (codeR c s).1 ∧ e = .returned (.tuple #[.string t, .bool (codeR c s).2]) ∧ Below w.heap.size w w' := by
  have := refCode_any c s w hs
  unfold CodePost' at this
  rw [ref_code] at this
  exact this
theorem rEnc_nocode (c p : Int) (s : ByteArray) (w : World) (hc : c = 1 ∨ c = 2 ∨ c = 3) (hp : 1 ≤ p ∧ p ≤ 999999) (hs : s.size ≤ 60000) (hv : validB c s = false) :
    Calls Tryz.prog 18 #[.int .u8 c, .string s, .int .i64 p] w fun e w' => e = .returned (.tuple #[.string ⟨#[]⟩, .int .i64 170]) ∧ Below w.heap.size w w' := by
  have d1 : (c == 0) = false := by simp; omega
  have d2 : decide (3 < c) = false := decide_eq_false (by omega)
  have d3 : decide (p < 1) = false := decide_eq_false (by omega)
  have d4 : decide (999999 < p) = false := decide_eq_false (by omega)
  have HC := Lib.hid (fun W => rCode_any c s W hs)
  have HV := Lib.hid (fun h he => valid_code (c := c) (s := s) hc h he)
  clear hc hp
  go_enter Tryz.func18, Tryz.ntmps18
  go_wp2_with fail
  refine (HC.out _).mono ?_
  rintro e w1 ⟨t, ht, rfl, hb⟩
  have HT := Lib.hid ht
  clear ht
  cases hr : (codeR c s).2
  · clear HV
    go_wp2_with fail
    go_ret2
    exact ⟨rfl, hb⟩
  · have hne : t ≠ s := fun h => by
      have h1 := HT.out
      rw [h] at h1
      have := HV.out hr h1.symm
      rw [hv] at this
      cases this
    have hbe := ba_eq2 t s
    rw [decide_eq_false hne] at hbe
    clear HV hne
    go_wp2_with fail
    go_ret2
    exact ⟨rfl, hb⟩
theorem two_cut (j : Nat) (hj : j < 10) : (padB j 2).size = 2 ∧ (padB j 2).extract 1 2 = charB j := by
  have e : padB j 2 = ⟨#[48, UInt8.ofNat (48 + j)]⟩ := by
    unfold padB
    rw [padL_two (by omega), show j / 10 = 0 by omega, show j % 10 = j by omega]
    rfl
  rw [e]
  refine ⟨rfl, ?_⟩
  apply ba_inj2
  rw [extract_list]
  rfl
set_option maxHeartbeats 8000000 in
theorem rEnc_ok (j p : Nat) (s : ByteArray) (w : World) (hj : j = 1 ∨ j = 2 ∨ j = 3) (hp : 1 ≤ p ∧ p ≤ 999999) (hs : s.size ≤ 60000) (hv : matchesB s.data.toList (patOf j) = true) :
    Calls Tryz.prog 18 #[.int .u8 (j : Nat), .string s, .int .i64 (p : Nat)] w fun e w' => e = .returned (.tuple #[.string (encB j s.data.toList p), .int .i64 0]) ∧ Below w.heap.size w w' := by
  have hvb : validB (j : Nat) s = true := by
    unfold validB
    rw [Int.toNat_natCast, hv]
    rcases hj with rfl | rfl | rfl <;> rfl
  have hcv := code_valid hvb
  have HC : Hid (∀ W, Calls Tryz.prog 34 #[.int .u8 (j : Nat), .string s] W fun e w' => e = .returned (.tuple #[.string s, .bool true]) ∧ Below W.heap.size W w') := fun W => by
    refine (rCode_any j s W hs).mono ?_
    rintro e w' ⟨t, ht, rfl, hb⟩
    rw [hcv] at ht ⊢
    exact ⟨by rw [show t = s from ba_inj2 ht], hb⟩
  have hbe := ba_eq2 s s
  rw [decide_eq_true rfl] at hbe
  obtain ⟨z2, zx⟩ := two_cut j (by omega)
  have HT := Lib.hid (fun W => two_any j W (by omega))
  have HD := Lib.hid (fun W => digits_any j s W hj hv)
  have HX := Lib.hid (fun W => six_any p W (by omega))
  obtain ⟨f1, f2⟩ := body_dig hj hv (p := p) (by omega)
  have hbody : charB j ++ digitsB j s.data.toList ++ padB p 6 = ⟨(bodyL j s.data.toList p).toArray⟩ := by
    unfold charB digitsB padB
    rw [show (⟨#[UInt8.ofNat (48 + j)]⟩ : ByteArray) = ⟨[UInt8.ofNat (48 + j)].toArray⟩ from rfl, ba_mk_append, ba_mk_append]
    simp [bodyL]
  have hsz : (charB j).size + (digitsB j s.data.toList).size + (padB p 6).size = 16 := by
    have := congrArg ByteArray.size hbody
    rw [ByteArray.size_append, ByteArray.size_append] at this
    omega
  rw [← hbody] at f1 f2
  have HK := Lib.hid (fun W => check16_any (charB j ++ digitsB j s.data.toList ++ padB p 6) W f1 (by omega) (by omega))
  have hck := checkD_lt f1
  have HE : Hid (encB j s.data.toList p = charB j ++ digitsB j s.data.toList ++ padB p 6 ++ ⟨#[UInt8.ofNat (48 + checkD (charB j ++ digitsB j s.data.toList ++ padB p 6))]⟩) := by
    show encB j s.data.toList p = _
    unfold encB
    rw [← hbody]
    rfl
  have hc1 : (charB j).size = 1 := rfl
  generalize encB j s.data.toList p = eb at HE ⊢
  generalize charB j = cb at hc1 zx f1 f2 hsz HK hck HE
  generalize digitsB j s.data.toList = db at HD f1 f2 hsz HK hck HE
  generalize padB p 6 = pb at HX f1 f2 hsz HK hck HE
  generalize padB j 2 = tb at HT z2 zx
  generalize checkD (cb ++ db ++ pb) = ck at HK hck HE
  have HCV : Hid (∀ W : World, Sem.run Tryz.prog (convert 27 9 (.slice (some ⟨W.heap.size, 0, none⟩) 1 1)) (W.alloc (.cells #[.int .u8 (48 + (ck : Nat))] 5)) = .ok (.string ⟨#[UInt8.ofNat (48 + ck)]⟩) (W.alloc (.cells #[.int .u8 (48 + (ck : Nat))] 5))) :=
    fun W => conv_one W (UInt8.ofNat (48 + ck)) (48 + (ck : Nat)) (by rw [UInt8.toNat_ofNat']; omega)
  have hov4 : ¬ 9223372036854775807 < (cb ++ db ++ pb).size + (⟨#[UInt8.ofNat (48 + ck)]⟩ : ByteArray).size := by rw [f2]; show ¬ 9223372036854775807 < 16 + 1; decide
  generalize (⟨#[UInt8.ofNat (48 + ck)]⟩ : ByteArray) = kb at HE HCV hov4
  have hov1 : ¬ 9223372036854775807 < cb.size + db.size := by omega
  have hov2 : ¬ 9223372036854775807 < (cb ++ db).size + pb.size := by rw [ByteArray.size_append]; omega
  have hck0 : (0 : Int) ≤ (ck : Int) := by omega
  have hck9 : (ck : Int) ≤ 9 := by omega
  have d1 : ((j : Int) == 0) = false := by simp; omega
  have d2 : decide (3 < (j : Int)) = false := decide_eq_false (by omega)
  have d3 : decide ((p : Int) < 1) = false := decide_eq_false (by omega)
  have d4 : decide (999999 < (p : Int)) = false := decide_eq_false (by omega)
  have hj3 : (j : Int) ≤ 3 := by omega
  have hj0 : (0 : Int) ≤ (j : Int) := by omega
  have hwj : IntKind.i64.wrap (j : Int) = (j : Int) := IntWalk.i64_in _ (by omega)
  have hle : 1 ≤ tb.size := by omega
  have hlei : (1 : Int) ≤ (tb.size : Int) := by omega
  have hxx : tb.extract 1 tb.size = cb := by rw [z2]; exact zx
  clear hj hp hs hv hvb hcv hbody hck f1 f2 hsz hc1 zx z2
  go_enter Tryz.func18, Tryz.ntmps18
  go_wp2_with fail
  refine (HC.out _).mono ?_
  rintro e w1 ⟨rfl, hb1⟩
  have HB1 := Lib.hid hb1
  clear hb1 HC
  have CT : Hid (∀ W, Below w1.heap.size w1 W → Calls Tryz.prog 35 #[.int .i64 (j : Nat)] W fun e w' => e = .returned (.string tb) ∧ Below W.heap.size W w') := fun W _ => HT.out W
  have CD : Hid (∀ W, Below w1.heap.size w1 W → Calls Tryz.prog 36 #[.string s] W fun e w' => e = .returned (.string db) ∧ Below W.heap.size W w') := fun W _ => HD.out W
  have CX : Hid (∀ W, Below w1.heap.size w1 W → Calls Tryz.prog 37 #[.int .i64 (p : Nat)] W fun e w' => e = .returned (.string pb) ∧ Below W.heap.size W w') := fun W _ => HX.out W
  clear HT HD HX
  go_wp2_with fail
  refine wp_region_quiet_below (by kernel_rfl) (by kernel_rfl) ?_
  repeat (go_big_quiet_step ((first | (with_reducible exact regrown_in CT.out _) | (with_reducible exact regrown_in CD.out _) | (with_reducible exact regrown_in CX.out _))))
  refine wpQuiet_nil ?_
  intro _ hw'
  obtain ⟨pp, hw''⟩ := hw'
  subst hw''
  have HB4 := Lib.hid (HB1.out.trans ((below_in w1 pp).mono HB1.out.size))
  clear CT CD CX
  go_wp2_with fail
  refine (HK.out _).mono ?_
  rintro e w5 ⟨rfl, hb5⟩
  have HB5 := Lib.hid (HB4.out.trans (hb5.mono HB4.out.size))
  clear hb5 HK
  have hcv := HCV.out w5
  go_wp2_with fail
  go_ret2
  exact ⟨by rw [HE.out]; rfl, HB5.out.alloc HB5.out.size _⟩
theorem rEnc_any (c p : Int) (s : ByteArray) (w : World) (hc : 0 ≤ c) (hs : s.size ≤ 60000) :
    Calls Tryz.prog 18 #[.int .u8 c, .string s, .int .i64 p] w fun e w' => e = .returned (.tuple #[.string (encR c s p).1, .int .i64 (encR c s p).2]) ∧ Below w.heap.size w w' := by
  by_cases h : c < 1 ∨ 3 < c ∨ p < 1 ∨ 999999 < p
  · have := rEnc_range c p s w hc h
    unfold encR
    rw [if_pos h]
    exact this
  · cases hv : validB c s
    · have := rEnc_nocode c p s w (by omega) (by omega) hs hv
      unfold encR
      rw [if_neg h, if_pos hv]
      exact this
    · obtain ⟨j, rfl⟩ : ∃ j : Nat, c = (j : Nat) := ⟨c.toNat, by omega⟩
      obtain ⟨q, rfl⟩ : ∃ q : Nat, p = (q : Nat) := ⟨p.toNat, by omega⟩
      have hm : matchesB s.data.toList (patOf j) = true := by
        unfold validB at hv
        rw [Bool.and_eq_true, Int.toNat_natCast] at hv
        exact hv.2
      have hj : j = 1 ∨ j = 2 ∨ j = 3 := by omega
      have e := encR_ok hj hm (p := q) (by omega) (by omega)
      rw [show (⟨s.data.toList.toArray⟩ : ByteArray) = s by cases s; simp] at e
      rw [e]
      exact rEnc_ok j q s w hj (by omega) hs hm
end Go.Proofs.YtgdlgfplheeblaaGreatDoor
