/-
  letterbaglaw17.CodeBack: the walk.
-/
import Derived.Test.YtgdlgfplheeblaaGreatDoorKJ
namespace Go.Proofs.YtgdlgfplheeblaaGreatDoor
open Go.RowKit
set_option linter.unusedVariables false
set_option maxRecDepth 100000
theorem encR_small {c p : Int} {z t : ByteArray} (h : encR c z p = (t, 0)) : z.size ≤ 6 := by
  unfold encR at h
  split at h
  · have := congrArg Prod.snd h; simp at this
  · split at h
    · have := congrArg Prod.snd h; simp at this
    · rename_i hv
      have hv' : validB c z = true := by simpa using hv
      unfold validB at hv'
      rw [Bool.and_eq_true] at hv'
      have h1 := matches_len hv'.2
      have h2 : z.data.toList.length = z.size := rfl
      have h3 : (patOf c.toNat).length ≤ 6 := by
        unfold patOf
        split
        · decide
        · split <;> decide
      omega
theorem encB_first {j : Nat} (hj : j = 1 ∨ j = 2 ∨ j = 3) {l : List UInt8} (h : matchesB l (patOf j) = true) {p : Nat} (hp : p < 1000000) (h0 : 0 < (encB j l p).size) : ((encB j l p)[0]'h0).toNat = 48 + j ∧ (encB j l p).extract 10 16 = padB p 6 := by
  have hd : (encB j l p).data.toList = bodyL j l p ++ [UInt8.ofNat (48 + checkD ⟨(bodyL j l p).toArray⟩)] := checked_data _
  obtain ⟨e1, e2, e3⟩ := body_split hj h hp [UInt8.ofNat (48 + checkD ⟨(bodyL j l p).toArray⟩)]
  rw [← hd] at e1 e3
  refine ⟨?_, ?_⟩
  · have : (encB j l p)[0]'h0 = (encB j l p).data.toList.headD 0 := by
      rw [List.headD_eq_head?_getD, List.head?_eq_getElem?, List.getElem?_eq_getElem (by exact h0)]; rfl
    rw [this, e1, UInt8.toNat_ofNat']; omega
  · apply ba_inj2
    rw [extract_list]
    exact e3
/-- A code of a country and what is known of its payload. -/
structure Pay (j p : Nat) (l : List UInt8) (sb : ByteArray) : Prop where
  enc : encR (j : Nat) ⟨l.toArray⟩ (p : Nat) = (sb, 0)
  dec : decR sb = (((j : Nat) : Int), (⟨l.toArray⟩ : ByteArray), ((p : Nat) : Int), (0 : Int))
  size : sb.size = 17
  dig : digB sb = true
  perm : permB (valsOf sb) = true
  first : ∀ h0 : 0 < sb.size, (sb[0]'h0).toNat = 48 + j
  last : sb.extract 10 16 = padB p 6
theorem pay_of {j : Nat} (hj : j = 1 ∨ j = 2 ∨ j = 3) {l : List UInt8} (h : matchesB l (patOf j) = true) {p : Nat} (hp1 : 1 ≤ p) (hp2 : p ≤ 999999) : Pay j p l (encB j l p) :=
  have hf := encB_facts hj h (p := p) (by omega)
  ⟨encR_ok hj h hp1 hp2, dec_enc hj h hp1 hp2, hf.2.1, hf.1, hf.2.2, fun h0 => (encB_first hj h (by omega) h0).1, (encB_first hj h (by omega) (by rw [hf.2.1]; decide)).2⟩
theorem enc_in (c p : Int) (s : ByteArray) {r : ByteArray} {er : Int} (h : encR c s p = (r, er)) (hs : s.size ≤ maxLen) {w : World} (ht : TabW w) (hg : 3 < w.heap.size) (W : World) (hB : Below w.heap.size w W) :
    Calls Tryz.prog 12 #[.int .u8 c, .string s, .int .i64 p] W fun e w' => e = .returned (.tuple #[.string r, .int .i64 er]) ∧ Below W.heap.size W w' := by
  have := enc_any c p s W hs (ht.below hB hg) (Nat.lt_of_lt_of_le hg hB.size)
  rw [h] at this
  exact this
theorem dec_in (t : ByteArray) {c : Int} {s : ByteArray} {p er : Int} (h : decR t = (c, s, p, er)) (hs : t.size ≤ maxLen) {w : World} (ht : TabW w) (hg : 3 < w.heap.size) (W : World) (hB : Below w.heap.size w W) :
    Calls Tryz.prog 14 #[.string t] W fun e w' => e = .returned (.tuple #[.int .u8 c, .string s, .int .i64 p, .int .i64 er]) ∧ Below W.heap.size W w' := by
  have := dec_any t W hs (ht.below hB hg) (Nat.lt_of_lt_of_le hg hB.size)
  unfold DecPost at this
  rw [h] at this
  exact this
/-- The six numbers stand in a block. -/
def SixAt (w : World) (B : Nat) (f : Nat → Nat) : Prop := ∀ k, k < 6 → w.cell? ⟨B, k, none⟩ = some (.int .u8 (f k : Nat))
theorem SixAt.below {w w' : World} {B : Nat} {f : Nat → Nat} (h : SixAt w B f) (hB : B < w.heap.size) (hb : Below w.heap.size w w') : SixAt w' B f := fun k hk => (hb.cell (p := ⟨B, k, none⟩) hB).trans (h k hk)
theorem sixAt_new (w : World) (f : Nat → Nat) (T : TypeId) : SixAt (w.alloc (.cells (sixC f) T)) w.heap.size f := fun k hk => by rw [World.cell?_alloc_new, sixC_get f k hk]
set_option maxHeartbeats 16000000 in
theorem codeBack_walk (c : UInt8) (f : Nat → Nat) (q : Nat) (t : ByteArray) (w : World) (hf : ∀ i, f i < 256) (hq : q < 2 ^ 32) (hs : t.size ≤ maxLen) (ht : TabW w) (hg : 3 < w.heap.size) :
    Calls Tryz.prog 5 #[.int .u8 c.toNat, sixV f, .int .u32 (q : Nat), .string t] w fun e w' => e = .returned (.bool true) ∧ Below w.heap.size w w' := by
  obtain ⟨j, hj⟩ : ∃ j, 1 + c.toNat % 3 = j := ⟨_, rfl⟩
  obtain ⟨p, hp⟩ : ∃ p, 1 + q % 999999 = p := ⟨_, rfl⟩
  have hj3 : j = 1 ∨ j = 2 ∨ j = 3 := by omega
  have hcl := c.toNat_lt
  have P := pay_of hj3 (zipL_ok j f) (p := p) (by omega) (by omega)
  obtain ⟨sb, hsb⟩ : ∃ sb, encB j (zipL j f) p = sb := ⟨_, rfl⟩
  rw [hsb] at P
  clear hsb
  have hzl : (⟨(zipL j f).toArray⟩ : ByteArray).size ≤ maxLen := by rw [ba_mk_size, zipL_len]; have := patOf_len hj3; unfold maxLen; omega
  have HZ := Lib.hid (fun W => zip_any j f W hj3 hf)
  have HE := Lib.hid (enc_in j p _ P.enc hzl ht hg)
  have HD := Lib.hid (dec_in sb P.dec (by rw [P.size]; decide) ht hg)
  have HM := Lib.hid (fun W => decimal_any p W (by omega))
  have HDT : Hid (∀ W, Below w.heap.size w W → Calls Tryz.prog 14 #[.string t] W fun e w' => e = .returned (.tuple #[.int .u8 (decR t).1, .string (decR t).2.1, .int .i64 (decR t).2.2.1, .int .i64 (decR t).2.2.2]) ∧ Below W.heap.size W w') := dec_in t rfl hs ht hg
  have HAW : Hid (∀ W, Below w.heap.size w W → Calls Tryz.prog 9 #[] W fun e w' => e = .returned (.bool true) ∧ Below w.heap.size w w') := fun W hB =>
    (awake_any W (ht.below hB hg) (Nat.lt_of_lt_of_le hg hB.size)).mono fun e w' ⟨a, b⟩ => ⟨a, hB.trans (b.mono hB.size)⟩
  generalize (⟨(zipL j f).toArray⟩ : ByteArray) = zb at HZ HE HD
  have h17 := P.size
  have h0 : 0 < sb.size := by omega
  have hfst : ((sb[0]'h0).toNat : Int) = 48 + (j : Int) := by rw [P.first h0]; omega
  have hlast := P.last
  obtain ⟨pb, hpb⟩ : ∃ pb, padB p 6 = pb := ⟨_, rfl⟩
  rw [hpb] at hlast HM
  have hda : Hid (∀ k (h : k < sb.size), 48 ≤ ((sb[k]'h).toNat : Int) ∧ ((sb[k]'h).toNat : Int) ≤ 57) := fun k h => by
    have := digB_iff.1 P.dig (sb[k]'h) (Array.mem_toList_iff.2 (Array.getElem_mem (xs := sb.data) h))
    omega
  have hji : 1 + (c.toNat : Int) % 3 = (j : Int) := by omega
  have hpi : 1 + (q : Int) % 999999 = (p : Int) := by omega
  have hj1 : (1 : Int) ≤ (j : Int) := by omega
  have hj2 : (j : Int) ≤ 3 := by omega
  have hp1 : (1 : Int) ≤ (p : Int) := by omega
  have hp2 : (p : Int) ≤ 999999 := by omega
  have hc1 : (0 : Int) ≤ (c.toNat : Int) := by omega
  have hc2 : (c.toNat : Int) ≤ 255 := by omega
  have hq1 : (0 : Int) ≤ (q : Int) := by omega
  have hq2 : (q : Int) ≤ 4294967295 := by omega
  have HEA : Hid (∀ (c' p' : Int) (z' : ByteArray), encR c' z' p' = (t, 0) → ∀ W, Below w.heap.size w W → Calls Tryz.prog 12 #[.int .u8 c', .string z', .int .i64 p'] W fun e w' => e = .returned (.tuple #[.string t, .int .i64 0]) ∧ Below W.heap.size W w') := fun c' p' z' h =>
    enc_in c' p' z' h (by have := encR_small h; unfold maxLen; omega) ht hg
  clear hj hp hj3 hcl P hzl hpb ht hg hs hf hq
  unfold sixV at HZ ⊢
  go_enter Tryz.func5, Tryz.ntmps5
  go_wp2_with fail
  refine (HZ.out _).mono ?_
  rintro e w1 ⟨rfl, hb1⟩
  have HB1 : Hid (Below w.heap.size w w1) := ((Below.refl _ w).alloc (Nat.le_refl _) _).trans (hb1.mono (by simp))
  have hz1 : w.heap.size < w1.heap.size := by have := hb1.size; simp at this; omega
  have HC1 : Hid (SixAt w1 w.heap.size f) := SixAt.below (sixAt_new w f 28) (by simp) hb1
  clear hb1
  go_wp2_with fail
  refine (HE.out _ HB1.out).mono ?_
  rintro e w2 ⟨rfl, hb2⟩
  have HC2 : Hid (SixAt w2 w.heap.size f) := HC1.out.below hz1 hb2
  have HB2 := Lib.hid (HB1.out.trans (hb2.mono HB1.out.size))
  have hz2 : w.heap.size < w2.heap.size := Nat.lt_of_lt_of_le hz1 hb2.size
  clear hb2 HC1
  go_wp2_with fail
  refine (HD.out _ HB2.out).mono ?_
  rintro e w3 ⟨rfl, hb3⟩
  have HC3 : Hid (SixAt w3 w.heap.size f) := HC2.out.below hz2 hb3
  have HB3 := Lib.hid (HB2.out.trans (hb3.mono HB2.out.size))
  have hz3 : w.heap.size < w3.heap.size := Nat.lt_of_lt_of_le hz2 hb3.size
  clear hb3 HC2
  have c0 := HC3.out 0 (by decide)
  have c1 := HC3.out 1 (by decide)
  have c2 := HC3.out 2 (by decide)
  have c3 := HC3.out 3 (by decide)
  have c4 := HC3.out 4 (by decide)
  have c5 := HC3.out 5 (by decide)
  go_wp2_with fail
  refine (HZ.out _).mono ?_
  rintro e w4 ⟨rfl, hb4⟩
  have HB4 := Lib.hid (HB3.out.trans (hb4.mono HB3.out.size))
  clear hb4 c0 c1 c2 c3 c4 c5 HC3
  go_wp2_with fail
  go_loop [17] (fun i => ∃ k : Nat, k ≤ 17 ∧ i = .int .i64 k) (fun i => 17 - (intOf i).toNat)
  case atStart => exact ⟨0, by omega, rfl⟩
  case round =>
    obtain ⟨k, hk, rfl⟩ := hrel
    by_cases hlt : k < 17
    · have hks : k < sb.size := by omega
      have hx := hda.out k hks
      have hx1 : decide (((sb[k]'hks).toNat : Int) < 48) = false := decide_eq_false (by omega)
      have hx2 : decide (57 < ((sb[k]'hks).toNat : Int)) = false := decide_eq_false (by omega)
      clear hx
      go_wp2_with fail
      go_round
      case rel => exact ⟨k + 1, by omega, by go_num⟩
      case measure => simp [intOf]; omega
    · obtain rfl : k = 17 := by omega
      clear HZ HE HD
      go_wp2_with fail
      have hwr : IntKind.u8.wrap (48 + (j : Int)) = 48 + (j : Int) := IntWalk.u8_in _ (by omega)
      have hbb : ((sb[0]'h0).toNat : Int) = 48 + (j : Int) := hfst
      have hsz : (sb.size : Int) = 17 := by omega
      have ht1 : (((sb[0]'h0).toNat : Int) != 48 + (j : Int)) = false := by simp; omega
      have ht2 : (((sb[0]'h0).toNat : Int) == 48 + (j : Int)) = true := by simp; omega
      go_region_with (go_at_call 15; refine (HM.out _).mono ?_; rintro e w5 ⟨rfl, hb5⟩; have HB5 := Lib.hid (HB4.out.drew.trans (hb5.mono HB4.out.size)); clear hb5)
      clear ht1 ht2 hbb hfst hwr HM hlast hsz h17 hpi hji
      rcases decR_cases t with ⟨er, he, hd⟩ | ⟨c', z', p', hd, hen⟩
      · rw [hd] at HDT
        unfold noDec baE at HDT
        simp only at HDT
        have he1 : (er == 0) = false := by simpa using he
        have he2 : (er != 0) = true := by simpa using he
        clear he hd HEA
        go_wp2_with fail
        refine (HDT.out _ HB5.out).mono ?_
        rintro e w6 ⟨rfl, hb6⟩
        have HB6 := Lib.hid (HB5.out.trans (hb6.mono HB5.out.size))
        clear hb6
        go_wp2_with fail
        refine (HAW.out _ HB6.out).mono ?_
        rintro e w7 ⟨rfl, hb7⟩
        go_wp2_with fail
        go_ret
        exact ⟨rfl, hb7⟩
      · rw [hd] at HDT
        simp only at HDT
        have HEN := Lib.hid (HEA.out c' p' z' hen)
        clear hd hen HEA
        go_wp2_with fail
        refine (HDT.out _ HB5.out).mono ?_
        rintro e w6 ⟨rfl, hb6⟩
        have HB6 := Lib.hid (HB5.out.trans (hb6.mono HB5.out.size))
        clear hb6
        go_wp2_with fail
        refine (HEN.out _ HB6.out).mono ?_
        rintro e w7 ⟨rfl, hb7⟩
        have HB7 := Lib.hid (HB6.out.trans (hb7.mono HB6.out.size))
        clear hb7
        go_wp2_with fail
        refine (HAW.out _ HB7.out).mono ?_
        rintro e w8 ⟨rfl, hb8⟩
        go_wp2_with fail
        go_ret
        exact ⟨rfl, hb8⟩
end Go.Proofs.YtgdlgfplheeblaaGreatDoor
