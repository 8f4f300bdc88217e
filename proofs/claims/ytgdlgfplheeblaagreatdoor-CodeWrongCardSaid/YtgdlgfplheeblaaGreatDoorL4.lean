/-
  letterbaglaw17.CodeWrong: the walk.
-/
import Derived.Test.YtgdlgfplheeblaaGreatDoorL1
import Derived.Deep.RegionWith
namespace Go.Proofs.YtgdlgfplheeblaaGreatDoor
open Go.RowKit
set_option linter.unusedVariables false
set_option maxRecDepth 100000
def ref0 : Value := .agg #[.slice none 0 0, .slice none 0 0, .slice none 0 0, .slice none 0 0]
def pt0 : Value := .agg #[.int .i64 0, .int .i64 0, .int .i64 0, .int .i64 0, .string ⟨#[]⟩, .string ⟨#[]⟩, .int .i64 0, .int .i64 0]
theorem bcell {W w1 : World} (hb : Below W.heap.size W w1) : (∀ b o, b < W.heap.size → w1.cell? ⟨b, o, none⟩ = W.cell? ⟨b, o, none⟩) ∧ (∀ b o, b < W.heap.size → w1.frozen? ⟨b, o, none⟩ = W.frozen? ⟨b, o, none⟩) :=
  ⟨fun b o h => hb.cell (p := ⟨b, o, none⟩) h, fun b o h => hb.frozen (p := ⟨b, o, none⟩) h⟩
theorem first_empty (fn : Value) (w : World) : Calls Tryz.prog 59 #[.slice none 0 0, fn] w fun e w' => e = .returned (.tuple #[pt0, .bool false]) ∧ Below w.heap.size w w' := by
  go_enter Tryz.func59, Tryz.ntmps59
  go_wp2_with fail
  refine wp_loop_rounds 1 ?_
  rw [rounds_succ]
  go_wp2_with fail
  refine bodyPost_ret (v := .tuple #[pt0, .bool false]) (by simp [results, Tryz.results59, go_sem, pt0]) rfl ⟨rfl, ?_⟩
  first
  | exact (((Below.refl _ w).alloc (Nat.le_refl _) _).alloc (by simp) _)
  | exact (((Below.refl _ w).alloc (Nat.le_refl _) _).alloc (by simp) _).setCell (by simp) _
theorem point_empty (n : Int) (w : World) : Calls Tryz.prog 31 #[ref0, .int .i64 n] w fun e w' => e = .returned (.tuple #[pt0, .bool false]) ∧ Below w.heap.size w w' := by
  unfold ref0
  go_enter Tryz.func31, Tryz.ntmps31
  go_wp2_with fail
  refine (first_empty _ _).mono ?_
  rintro e w1 ⟨rfl, hb1⟩
  unfold pt0
  obtain ⟨hc, hf⟩ := bcell hb1
  have hz : w.heap.size + 2 < w1.heap.size := by have := hb1.size; simp at this; omega
  have HB := Lib.hid hb1
  clear hb1
  go_wp2_with fail
  refine bodyPost_ret (v := .tuple #[pt0, .bool false]) (by simp [results, Tryz.results31, go_sem, pt0, hc]) rfl ⟨rfl, ?_⟩
  have hB1 := ((((Below.refl _ w).alloc (Nat.le_refl _) _).alloc (by simp) _).alloc (by simp; omega) _).trans (HB.out.mono (by simp; omega))
  clear HB hc hf
  repeat (refine Below.setCell ?_ (by simp; omega) _)
  exact hB1
theorem of_empty (n : Int) (w : World) : Calls Tryz.prog 16 #[ref0, .int .i64 n] w fun e w' => e = .returned (.tuple #[.string ⟨#[]⟩, .int .i64 6]) ∧ Below w.heap.size w w' := by
  have HP := Lib.hid (fun W => point_empty n W)
  unfold ref0 pt0 at *
  go_enter Tryz.func16, Tryz.ntmps16
  go_wp2_with fail
  refine (HP.out _).mono ?_
  rintro e w1 ⟨rfl, hb1⟩
  have HB : Hid (Below w.heap.size w w1) := ((Below.refl _ w).alloc (Nat.le_refl _) _).trans (hb1.mono (by simp))
  clear hb1
  go_wp2_with fail
  go_ret2
  exact ⟨rfl, HB.out.alloc HB.out.size _⟩
/-- What Find returns in an empty file. -/
def findE (t : ByteArray) : Int := if (decR t).2.2.2 = 0 then 6 else (decR t).2.2.2
theorem find_empty (t : ByteArray) (w : World) (hs : t.size ≤ maxLen) (ht : TabW w) (hg : 3 < w.heap.size) : Calls Tryz.prog 17 #[ref0, .string t] w fun e w' => e = .returned (.tuple #[.int .i64 0, .int .i64 (findE t)]) ∧ Below w.heap.size w w' := by
  have HD := Lib.hid (dec_in t (c := (decR t).1) (s := (decR t).2.1) (p := (decR t).2.2.1) (er := (decR t).2.2.2) rfl hs ht hg)
  have HO := Lib.hid (fun n W => of_empty n W)
  unfold findE
  generalize (decR t).1 = c at HD
  generalize (decR t).2.1 = s at HD
  generalize (decR t).2.2.1 = p at HD
  generalize (decR t).2.2.2 = er at HD ⊢
  clear ht hg hs
  unfold ref0 at *
  by_cases he : er = 0
  · subst he
    rw [if_pos rfl]
    go_enter Tryz.func17, Tryz.ntmps17
    go_wp2_with fail
    refine (HD.out _ ((Below.refl _ w).alloc (Nat.le_refl _) _)).mono ?_
    rintro e w1 ⟨rfl, hb1⟩
    obtain ⟨hc, hf⟩ := bcell hb1
    have hz : w.heap.size < w1.heap.size := by have := hb1.size; simp at this; omega
    have HB : Hid (Below w.heap.size w w1) := ((Below.refl _ w).alloc (Nat.le_refl _) _).trans (hb1.mono (by simp))
    clear hb1
    go_wp2_with fail
    refine (HO.out _ _).mono ?_
    rintro e w2 ⟨rfl, hb2⟩
    have HB2 : Hid (Below w.heap.size w w2) := HB.out.trans (hb2.mono HB.out.size)
    clear hb2 hc hf
    go_wp2_with fail
    go_ret2
    exact ⟨rfl, HB2.out⟩
  · rw [if_neg he]
    have he1 : (er == 0) = false := by simpa using he
    have he2 : (er != 0) = true := by simpa using he
    clear he
    go_enter Tryz.func17, Tryz.ntmps17
    go_wp2_with fail
    refine (HD.out _ ((Below.refl _ w).alloc (Nat.le_refl _) _)).mono ?_
    rintro e w1 ⟨rfl, hb1⟩
    have HB : Hid (Below w.heap.size w w1) := ((Below.refl _ w).alloc (Nat.le_refl _) _).trans (hb1.mono (by simp))
    clear hb1
    go_wp2_with fail
    go_ret2
    exact ⟨rfl, HB.out⟩
/-- Texts that are no codes. -/
theorem enc_bad {j : Nat} {s : ByteArray} (hj : j = 1 ∨ j = 2 ∨ j = 3) (h : matchesB s.data.toList (patOf j) = false) : encR (j : Nat) s 1 = (baE, 170) := by
  unfold encR
  have hv : validB (j : Nat) s = false := by unfold validB; rw [Int.toNat_natCast, h, Bool.and_false]
  rw [if_neg (by omega), if_pos hv]
theorem enc_out {j : Nat} {s : ByteArray} {p : Int} (h : p < 1 ∨ 999999 < p) : encR (j : Nat) s p = (baE, 2) := by
  unfold encR
  rw [if_pos (by omega)]
theorem matches_other {l : List UInt8} {ks : List Bool} (h : l.length ≠ ks.length) : matchesB l ks = false := matchesB_len l ks h
theorem encR_two (j : Nat) (l : List UInt8) (hj : j = 1 ∨ j = 2 ∨ j = 3) (hm : matchesB l (patOf j) = true) (n : Int) : (encR (j : Nat) ⟨l.toArray⟩ n).2 = if n < 1 ∨ 999999 < n then 2 else 0 := by
  by_cases h : n < 1 ∨ 999999 < n
  · rw [enc_out h, if_pos h]
  · rw [if_neg h]
    obtain ⟨p, rfl⟩ : ∃ p : Nat, n = p := ⟨n.toNat, by omega⟩
    rw [encR_ok hj hm (by omega) (by omega)]
set_option maxHeartbeats 16000000 in
theorem codeWrong_walk (c : UInt8) (f : Nat → Nat) (n : Int) (w : World) (hf : ∀ i, f i < 256) (ht : TabW w) (hg : 3 < w.heap.size) :
    Calls Tryz.prog 8 #[.int .u8 c.toNat, sixV f, .int .i64 n] w fun e w' => e = .returned (.bool true) ∧ Below w.heap.size w w' := by
  obtain ⟨j, hj⟩ : ∃ j, 1 + c.toNat % 3 = j := ⟨_, rfl⟩
  have hj3 : j = 1 ∨ j = 2 ∨ j = 3 := by omega
  have hcl := c.toNat_lt
  have hzs : (⟨(zipL j f).toArray⟩ : ByteArray).size = (patOf j).length := by rw [ba_mk_size, zipL_len]
  have hpl := patOf_len hj3
  have hp1 : 1 ≤ (patOf j).length := by rcases hj3 with rfl | rfl | rfl <;> decide
  have h100 : ∀ s : ByteArray, s.size ≤ 100 → s.size ≤ maxLen := fun s h => by unfold maxLen; omega
  have hlen : ∀ s : ByteArray, s.size ≠ (patOf j).length → encR (j : Nat) s 1 = (baE, 170) := fun s h => enc_bad hj3 (matches_other h)
  have HZ := Lib.hid (fun W => zip_any j f W hj3 hf)
  have E1 := Lib.hid (enc_in 0 1 ⟨#[]⟩ (show encR 0 ⟨#[]⟩ 1 = (baE, 2) by unfold encR; rw [if_pos (by decide)]) (by decide) ht hg)
  have E2 := Lib.hid (enc_in 4 1 ⟨(zipL j f).toArray⟩ (show encR 4 _ 1 = (baE, 2) by unfold encR; rw [if_pos (by decide)]) (h100 _ (by omega)) ht hg)
  have E3 := Lib.hid (enc_in j 0 ⟨#[]⟩ (enc_out (by decide)) (by decide) ht hg)
  have E4 := Lib.hid (enc_in j 1000000 ⟨(zipL j f).toArray⟩ (enc_out (by decide)) (h100 _ (by omega)) ht hg)
  have E5 := Lib.hid (enc_in j 1 (⟨(zipL j f).toArray⟩ ++ ⟨#[49]⟩) (hlen _ (by rw [ByteArray.size_append, hzs]; show (patOf j).length + 1 ≠ _; omega)) (h100 _ (by rw [ByteArray.size_append, hzs]; show (patOf j).length + 1 ≤ _; omega)) ht hg)
  have E6 := Lib.hid (enc_in j 1 ((⟨(zipL j f).toArray⟩ : ByteArray).extract 1 (⟨(zipL j f).toArray⟩ : ByteArray).size) (hlen _ (by rw [ByteArray.size_extract, hzs]; omega)) (h100 _ (by rw [ByteArray.size_extract, hzs]; omega)) ht hg)
  have E7 := Lib.hid (enc_in j 1 (⟨#[32]⟩ ++ ⟨(zipL j f).toArray⟩) (hlen _ (by rw [ByteArray.size_append, hzs]; show 1 + (patOf j).length ≠ _; omega)) (h100 _ (by rw [ByteArray.size_append, hzs]; show 1 + (patOf j).length ≤ _; omega)) ht hg)
  have E8 := Lib.hid (enc_in j n ⟨(zipL j f).toArray⟩ (r := (encR j ⟨(zipL j f).toArray⟩ n).1) (er := (encR j ⟨(zipL j f).toArray⟩ n).2) rfl (h100 _ (by omega)) ht hg)
  have e8 := encR_two j (zipL j f) hj3 (zipL_ok j f) n
  rw [e8] at E8
  have F1 : Hid (∀ W, Below w.heap.size w W → Calls Tryz.prog 16 #[ref0, .int .i64 n] W fun e w' => e = .returned (.tuple #[.string ⟨#[]⟩, .int .i64 6]) ∧ Below W.heap.size W w') := fun W _ => of_empty n W
  have f2 : findE exA = 6 := by unfold findE; rw [exA_dec]; rfl
  have f3 : findE exC = 172 := by unfold findE; rw [exC_dec]; rfl
  have F2 : Hid (∀ W, Below w.heap.size w W → Calls Tryz.prog 17 #[ref0, .string exA] W fun e w' => e = .returned (.tuple #[.int .i64 0, .int .i64 6]) ∧ Below W.heap.size W w') := fun W hB => by
    have := find_empty exA W (by decide) (ht.below hB hg) (Nat.lt_of_lt_of_le hg hB.size); rw [f2] at this; exact this
  have F3 : Hid (∀ W, Below w.heap.size w W → Calls Tryz.prog 17 #[ref0, .string exC] W fun e w' => e = .returned (.tuple #[.int .i64 0, .int .i64 172]) ∧ Below W.heap.size W w') := fun W hB => by
    have := find_empty exC W (by decide) (ht.below hB hg) (Nat.lt_of_lt_of_le hg hB.size); rw [f3] at this; exact this
  have HAW : Hid (∀ W, Below w.heap.size w W → Calls Tryz.prog 9 #[] W fun e w' => e = .returned (.bool true) ∧ Below W.heap.size W w') := fun W hB => awake_any W (ht.below hB hg) (Nat.lt_of_lt_of_le hg hB.size)
  have hji : 1 + (c.toNat : Int) % 3 = (j : Int) := by omega
  have hj1 : (1 : Int) ≤ (j : Int) := by omega
  have hj2 : (j : Int) ≤ 3 := by omega
  have hc2 : (c.toNat : Int) ≤ 255 := by omega
  generalize (encR j ⟨(zipL j f).toArray⟩ n).1 = rs at E8
  generalize (⟨(zipL j f).toArray⟩ : ByteArray) = zb at *
  have hz6 : zb.size ≤ 6 := by omega
  have hz1 : 1 ≤ zb.size := by omega
  have hov1 : ¬ 9223372036854775807 < zb.size + 1 := by omega
  have hov2 : ¬ 9223372036854775807 < 1 + zb.size := by omega
  clear e8 f2 f3 hj hj3 hcl hzs hpl hp1 h100 hlen ht hg hf
  unfold sixV at HZ ⊢
  unfold ref0 exA exC at *
  unfold baE at *
  go_enter Tryz.func8, Tryz.ntmps8
  go_wp2_with fail
  refine (HZ.out _).mono ?_
  rintro e w1 ⟨rfl, hb1⟩
  have HB1 : Hid (Below w.heap.size w w1) := ((Below.refl _ w).alloc (Nat.le_refl _) _).trans (hb1.mono (by simp))
  clear hb1
  go_wp2_with fail
  refine (E1.out _ HB1.out).mono ?_
  rintro e w2 ⟨rfl, hb2⟩
  have HB2 := Lib.hid (HB1.out.trans (hb2.mono HB1.out.size))
  clear hb2
  go_wp2_with fail
  refine (E2.out _ HB2.out).mono ?_
  rintro e w3 ⟨rfl, hb3⟩
  have HB3 := Lib.hid (HB2.out.trans (hb3.mono HB2.out.size))
  clear hb3
  go_wp2_with fail
  refine (E3.out _ HB3.out).mono ?_
  rintro e w4 ⟨rfl, hb4⟩
  have HB4 := Lib.hid (HB3.out.trans (hb4.mono HB3.out.size))
  clear hb4
  go_wp2_with fail
  refine (E4.out _ HB4.out).mono ?_
  rintro e w5 ⟨rfl, hb5⟩
  have HB5 := Lib.hid (HB4.out.trans (hb5.mono HB4.out.size))
  clear hb5
  go_wp2_with fail
  refine (E5.out _ HB5.out).mono ?_
  rintro e w6 ⟨rfl, hb6⟩
  have HB6 := Lib.hid (HB5.out.trans (hb6.mono HB5.out.size))
  clear hb6
  go_wp2_with fail
  refine (E6.out _ HB6.out).mono ?_
  rintro e w7 ⟨rfl, hb7⟩
  have HB7 := Lib.hid (HB6.out.trans (hb7.mono HB6.out.size))
  clear hb7
  go_wp2_with fail
  refine (E7.out _ HB7.out).mono ?_
  rintro e w8 ⟨rfl, hb8⟩
  have HB8 := Lib.hid (HB7.out.trans (hb8.mono HB7.out.size))
  clear hb8
  go_wp2_with fail
  refine (F1.out _ HB8.out).mono ?_
  rintro e w9 ⟨rfl, hb9⟩
  have HB9 := Lib.hid (HB8.out.trans (hb9.mono HB8.out.size))
  clear hb9
  go_wp2_with fail
  refine (F2.out _ HB9.out).mono ?_
  rintro e w10 ⟨rfl, hb10⟩
  have HB10 := Lib.hid (HB9.out.trans (hb10.mono HB9.out.size))
  clear hb10
  go_wp2_with fail
  refine (F3.out _ HB10.out).mono ?_
  rintro e w11 ⟨rfl, hb11⟩
  have HB11 := Lib.hid (HB10.out.trans (hb11.mono HB10.out.size))
  clear hb11
  clear E1 E2 E3 E4 E5 E6 E7 F1 F2 F3 HZ
  by_cases h1 : n < 1
  · rw [if_pos (Or.inl h1)] at E8
    have d1 : decide (n < 1) = true := decide_eq_true h1
    clear h1
    go_wp2_with fail
    refine (E8.out _ HB11.out).mono ?_
    rintro e w12 ⟨rfl, hb12⟩
    have HB12 := Lib.hid (HB11.out.trans (hb12.mono HB11.out.size))
    clear hb12
    go_wp2_with fail
    refine (HAW.out _ HB12.out).mono ?_
    rintro e w13 ⟨rfl, hb13⟩
    have HB13 := Lib.hid (HB12.out.trans (hb13.mono HB12.out.size))
    clear hb13
    go_wp2_with fail
    go_ret
    exact ⟨rfl, HB13.out⟩
  by_cases h2 : 999999 < n
  · rw [if_pos (Or.inr h2)] at E8
    have d1 : decide (n < 1) = false := decide_eq_false h1
    have d2 : decide (999999 < n) = true := decide_eq_true h2
    clear h1 h2
    go_wp2_with fail
    refine (E8.out _ HB11.out).mono ?_
    rintro e w12 ⟨rfl, hb12⟩
    have HB12 := Lib.hid (HB11.out.trans (hb12.mono HB11.out.size))
    clear hb12
    go_wp2_with fail
    refine (HAW.out _ HB12.out).mono ?_
    rintro e w13 ⟨rfl, hb13⟩
    have HB13 := Lib.hid (HB12.out.trans (hb13.mono HB12.out.size))
    clear hb13
    go_wp2_with fail
    go_ret
    exact ⟨rfl, HB13.out⟩
  · rw [if_neg (by omega)] at E8
    have d1 : decide (n < 1) = false := decide_eq_false h1
    have d2 : decide (999999 < n) = false := decide_eq_false h2
    clear h1 h2
    go_wp2_with fail
    refine (E8.out _ HB11.out).mono ?_
    rintro e w12 ⟨rfl, hb12⟩
    have HB12 := Lib.hid (HB11.out.trans (hb12.mono HB11.out.size))
    clear hb12
    go_wp2_with fail
    refine (HAW.out _ HB12.out).mono ?_
    rintro e w13 ⟨rfl, hb13⟩
    have HB13 := Lib.hid (HB12.out.trans (hb13.mono HB12.out.size))
    clear hb13
    go_wp2_with fail
    go_ret
    exact ⟨rfl, HB13.out⟩
end Go.Proofs.YtgdlgfplheeblaaGreatDoor
