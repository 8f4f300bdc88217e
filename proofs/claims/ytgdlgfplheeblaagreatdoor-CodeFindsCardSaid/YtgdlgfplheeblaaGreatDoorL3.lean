/-
  letterbaglaw17.CodeFinds: the walk.
-/
import Derived.Test.YtgdlgfplheeblaaGreatDoorKQ
import Derived.Deep.DeepCutAuto
import Derived.Deep.RegionWith
import Derived.Deep.RegionHeld3
import Derived.Deep.DrawnRows
namespace Go.Proofs.YtgdlgfplheeblaaGreatDoor
open Go.RowKit Go.Sort
set_option linter.unusedVariables false
set_option maxRecDepth 100000
attribute [local go_sem ↓] Go.wp_at_zero Go.wp_at_succ
theorem conv_one_drew (W : World) (b : UInt8) (z : Int) (hz : z = (b.toNat : Int)) : Sem.run Tryz.prog (convert 27 9 (.slice (some ⟨W.heap.size, 0, none⟩) 1 1)) (W.alloc (.cells #[.int .u8 z] 5)).drew = .ok (.string ⟨#[b]⟩) (W.alloc (.cells #[.int .u8 z] 5)).drew := by
  subst hz
  refine run_convert_bytes_back (P := Tryz.prog) _ 27 9 5 ⟨W.heap.size, 0, none⟩ 1 [b] Tryz.underlying27 Tryz.underlying5 Tryz.underlying9 (fun j hj => ?_)
  have ea : (⟨W.heap.size, 0, none⟩ : Addr).add j = ⟨W.heap.size, j, none⟩ := by unfold Addr.add; split <;> simp_all
  have hj1 : j < 1 := hj
  obtain rfl : j = 0 := by omega
  rw [ea]
  show (W.alloc (.cells #[.int .u8 (b.toNat : Int)] 5)).cell? ⟨W.heap.size, 0, none⟩ = _
  rw [World.cell?_alloc_new]
  rfl
theorem below_drewN {B : Nat} {a w : World} (h : Below B a w) (n : Nat) : Below B a (w.drewN n) := ⟨h.os, h.tape, h.output, h.size, h.block⟩
theorem dec_take {s : ByteArray} (hs : s.size = 17) (i : Nat) (hi : i < 17) : (decR (s.extract 0 i ++ s.extract (i + 1) 17)).2.2.2 = 171 := by
  apply dec_short
  rw [ByteArray.size_append, ByteArray.size_extract, ByteArray.size_extract]
  omega
theorem dec_more {s : ByteArray} (hs : s.size = 17) (i : Nat) (hi : i < 17) : (decR (s.extract 0 i ++ ⟨#[55]⟩ ++ s.extract i 17)).2.2.2 = 171 := by
  apply dec_short
  rw [ByteArray.size_append, ByteArray.size_append, ByteArray.size_extract, ByteArray.size_extract]
  show min i s.size - 0 + 1 + (min 17 s.size - i) ≠ 17
  omega
set_option maxHeartbeats 16000000 in
theorem codeFinds_walk (c : UInt8) (f : Nat → Nat) (q : Nat) (b : UInt8) (w : World) (hf : ∀ i, f i < 256) (hq : q < 2 ^ 32) (ht : TabW w) (hg : 3 < w.heap.size) :
    Calls Tryz.prog 6 #[.int .u8 c.toNat, sixV f, .int .u32 (q : Nat), .int .u8 b.toNat] w fun e w' => e = .returned (.bool true) ∧ Below w.heap.size w w' := by
  obtain ⟨j, hj⟩ : ∃ j, 1 + c.toNat % 3 = j := ⟨_, rfl⟩
  obtain ⟨p, hp⟩ : ∃ p, 1 + q % 999999 = p := ⟨_, rfl⟩
  have hj3 : j = 1 ∨ j = 2 ∨ j = 3 := by omega
  have hcl := c.toNat_lt
  have P := pay_of hj3 (zipL_ok j f) (p := p) (by omega) (by omega)
  obtain ⟨sb, hsb⟩ : ∃ sb, encB j (zipL j f) p = sb := ⟨_, rfl⟩
  rw [hsb] at P
  clear hsb
  have hzl : (⟨(zipL j f).toArray⟩ : ByteArray).size ≤ maxLen := by rw [ba_mk_size, zipL_len]; have := patOf_len hj3; unfold maxLen; omega
  have HZ := Lib.hid (fun W => zip_any j f W hj3 hf)
  have HE := Lib.hid (enc_in j p _ P.enc hzl ht hg)
  generalize (⟨(zipL j f).toArray⟩ : ByteArray) = zb at HZ HE
  have HD : Hid (∀ t : ByteArray, t.size ≤ 100 → ∀ W, Below w.heap.size w W → Calls Tryz.prog 14 #[.string t] W fun e w' => e = .returned (.tuple #[.int .u8 (decR t).1, .string (decR t).2.1, .int .i64 (decR t).2.2.1, .int .i64 (decR t).2.2.2]) ∧ Below W.heap.size W w') := fun t h => dec_in t rfl (by unfold maxLen; omega) ht hg
  have HAW : Hid (∀ W, Below w.heap.size w W → Calls Tryz.prog 9 #[] W fun e w' => e = .returned (.bool true) ∧ Below w.heap.size w w') := fun W hB =>
    (awake_any W (ht.below hB hg) (Nat.lt_of_lt_of_le hg hB.size)).mono fun e w' ⟨a, b⟩ => ⟨a, hB.trans (b.mono hB.size)⟩
  have h17 := P.size
  have HDG := Lib.hid P.dig
  have HPM := Lib.hid P.perm
  have HD0 : Hid ((decR sb).2.2.2 = 0) := by show (decR sb).2.2.2 = 0; rw [P.dec]
  have hji : 1 + (c.toNat : Int) % 3 = (j : Int) := by omega
  have hpi : 1 + (q : Int) % 999999 = (p : Int) := by omega
  have hc2 : (c.toNat : Int) ≤ 255 := by omega
  have hq2 : (q : Int) ≤ 4294967295 := by omega
  have hp2 : (p : Int) ≤ 999999 := by omega
  have hb2 : (b.toNat : Int) ≤ 255 := by have := b.toNat_lt; omega
  clear hj hp hj3 hcl P hzl ht hg hf hq
  unfold sixV at HZ ⊢
  go_enter Tryz.func6, Tryz.ntmps6
  go_wp2_with fail
  refine (HZ.out _).mono ?_
  rintro e w1 ⟨rfl, hb1⟩
  have HB1 : Hid (Below w.heap.size w w1) := ((Below.refl _ w).alloc (Nat.le_refl _) _).trans (hb1.mono (by simp))
  clear hb1
  go_wp2_with fail
  refine (HE.out _ HB1.out).mono ?_
  rintro e w2 ⟨rfl, hb2⟩
  have HB2 := Lib.hid (HB1.out.trans (hb2.mono HB1.out.size))
  clear hb2 HB1 HZ HE hji hpi
  go_wp2_with fail
  go_loopw [12] (fun i wr => ∃ k : Nat, k ≤ 17 ∧ i = .int .i64 k ∧ Below w.heap.size w wr) (fun i _ => 17 - (intOf i).toNat)
  case atStart => exact ⟨0, by omega, rfl, HB2.out⟩
  case round =>
    obtain ⟨k, hk, rfl, hB⟩ := hrel
    have HB := Lib.hid hB
    clear hB HB2
    by_cases hlt : k < 17
    · have hks : k < sb.size := by omega
      obtain ⟨B2, hB2⟩ : ∃ B2, decide (∃ h : 0 < k, sb[k - 1]'(Nat.lt_of_le_of_lt (Nat.sub_le _ _) hks) ≠ sb[k]'hks) = B2 := ⟨_, rfl⟩
      have HB2' := Lib.hid hB2
      clear hB2
      have hki : (k : Int) ≤ 16 := by omega
      have hkd : decide ((k : Int) < 17) = true := decide_eq_true (by omega)
      have hk1 : IntKind.i64.wrap ((k : Int) + 1) = (k : Int) + 1 := IntWalk.i64_in _ (by omega)
      have hk2 : 0 ≤ (k : Int) + 1 := by omega
      have hk3 : ((k : Int) + 1).toNat = k + 1 := by omega
      have hk4 : k + 1 ≤ 17 := by omega
      have hk5 : k ≤ 17 := by omega
      obtain ⟨x, hx⟩ : ∃ x, sb[k]'hks = x := ⟨_, rfl⟩
      have hxi : ((sb[k]'hks).toNat : Int) = (x.toNat : Int) := by rw [hx]
      have HDT : Hid (∀ n : Nat, n < 10 → ((decR (putB sb k (UInt8.ofNat (48 + n)))).2.2.2 = 172 ↔ UInt8.ofNat (48 + n) ≠ x)) := fun n hn => by
        have := dec_put h17 HDG.out HPM.out HD0.out k hks (UInt8.ofNat (48 + n)) (by rw [UInt8.toNat_ofNat']; omega)
        rw [hx] at this
        exact this
      clear hk1 hk2 hk3
      go_wp2_with fail
      obtain ⟨wo, rfl⟩ : ∃ wo : World, wo = wr := ⟨_, rfl⟩
      go_loopw [13] (fun v wr => ∃ n : Nat, n ≤ 10 ∧ v = .int .u8 (48 + (n : Int)) ∧ Below w.heap.size w wr) (fun v _ => 10 - ((intOf v).toNat - 48))
      case atStart => exact ⟨0, by omega, rfl, HB.out⟩
      case round =>
        obtain ⟨n, hn, rfl, hB⟩ := hrel
        have HBi := Lib.hid hB
        clear hB
        by_cases hn9 : n < 10
        · have hnI : (n : Int) ≤ 9 := by omega
          have hpe : putB sb k (UInt8.ofNat (48 + n)) = sb.extract 0 k ++ ⟨#[UInt8.ofNat (48 + n)]⟩ ++ sb.extract (k + 1) 17 := by unfold putB; rw [h17]
          have hps : (putB sb k (UInt8.ofNat (48 + n))).size ≤ 100 := by rw [putB_size _ _ _ hks]; omega
          have HDK := Lib.hid (HD.out _ hps)
          have hdt := HDT.out n hn9
          rw [hpe] at HDK hdt
          have hcv : ∀ W : World, Sem.run Tryz.prog (convert 27 9 (.slice (some ⟨W.heap.size, 0, none⟩) 1 1)) (W.alloc (.cells #[.int .u8 (48 + (n : Int))] 5)).drew = .ok (.string ⟨#[UInt8.ofNat (48 + n)]⟩) (W.alloc (.cells #[.int .u8 (48 + (n : Int))] 5)).drew := fun W => conv_one_drew W _ _ (by rw [UInt8.toNat_ofNat']; omega)
          obtain ⟨xa, hxa⟩ : ∃ xa, sb.extract 0 k = xa := ⟨_, rfl⟩
          obtain ⟨xb, hxb⟩ : ∃ xb, sb.extract (k + 1) 17 = xb := ⟨_, rfl⟩
          have hxas : xa.size ≤ 17 := by rw [← hxa, ByteArray.size_extract]; omega
          have hxbs : xb.size ≤ 17 := by rw [← hxb, ByteArray.size_extract]; omega
          rw [hxa, hxb] at HDK hdt
          have hov1 : ¬ 9223372036854775807 < xa.size + (⟨#[UInt8.ofNat (48 + n)]⟩ : ByteArray).size := by show ¬ 9223372036854775807 < xa.size + 1; omega
          have hov2 : ¬ 9223372036854775807 < xa.size + (⟨#[UInt8.ofNat (48 + n)]⟩ : ByteArray).size + xb.size := by show ¬ 9223372036854775807 < xa.size + 1 + xb.size; omega
          have htx : ((48 + (n : Int)) != (x.toNat : Int)) = decide (UInt8.ofNat (48 + n) ≠ x) := by
            rw [Bool.eq_iff_iff]
            simp only [bne_iff_ne, decide_eq_true_eq, ne_eq]
            rw [← UInt8.toNat_inj, UInt8.toNat_ofNat']
            omega
          generalize (⟨#[UInt8.ofNat (48 + n)]⟩ : ByteArray) = cb at HDK hdt hcv hov1 hov2
          obtain ⟨e1, he1⟩ : ∃ e, decR (xa ++ cb ++ xb) = e := ⟨_, rfl⟩
          rw [he1] at HDK hdt
          obtain ⟨er, her⟩ : ∃ er, e1.2.2.2 = er := ⟨_, rfl⟩
          rw [her] at HDK hdt
          generalize e1.1 = r1 at HDK
          generalize e1.2.1 = r2 at HDK
          generalize e1.2.2.1 = r3 at HDK
          have hte : (er == 172) = decide (UInt8.ofNat (48 + n) ≠ x) := by
            rw [Bool.eq_iff_iff, beq_iff_eq, decide_eq_true_eq]; exact hdt
          have hn0 : (0 : Int) ≤ (n : Int) := by omega
          obtain ⟨m, hm⟩ : ∃ m, k + 1 = m := ⟨_, rfl⟩
          rw [hm] at hxb
          have hk1 : IntKind.i64.wrap ((k : Int) + 1) = (m : Int) := by rw [IntWalk.i64_in _ (by omega)]; omega
          have hm17 : m ≤ 17 := by omega
          have hmI : (m : Int) ≤ 17 := by omega
          have hmI0 : 0 ≤ (m : Int) := by omega
          have hkI0 : 0 ≤ (k : Int) := by omega
          have hkI17 : (k : Int) ≤ 17 := by omega
          clear hm hk4
          clear he1 hdt her hpe hps HDT HB hx HDG HPM HD0
          go_wp2_with fail
          clear hn hn9 hc2 hq2 hp2 hb2 hk hlt
          go_region_with ((go_at_call 14; refine (HDK.out _ (HBi.out.alloc HBi.out.size _).drew).mono ?_; rintro e w3 ⟨rfl, hb3⟩; have HB3 : Hid (Below w.heap.size w w3) := (HBi.out.alloc HBi.out.size _).drew.trans (hb3.mono (HBi.out.alloc HBi.out.size _).size); clear hb3))
          generalize decide (UInt8.ofNat (48 + n) ≠ x) = B at hte htx
          cases B
          all_goals
            go_wp2_with fail
            go_roundw
            case rel => exact ⟨n + 1, by omega, by go_num, HB3.out⟩
            case measure => simp [intOf]; omega
        · obtain rfl : n = 10 := by omega
          clear HDT hxi hx
          obtain ⟨m, hm⟩ : ∃ m, k + 1 = m := ⟨_, rfl⟩
          obtain ⟨xa, hxa⟩ : ∃ xa, sb.extract 0 k = xa := ⟨_, rfl⟩
          obtain ⟨xb, hxb⟩ : ∃ xb, sb.extract m 17 = xb := ⟨_, rfl⟩
          obtain ⟨xc, hxc⟩ : ∃ xc, sb.extract k 17 = xc := ⟨_, rfl⟩
          have hxas : xa.size ≤ 17 := by rw [← hxa, ByteArray.size_extract]; omega
          have hxbs : xb.size ≤ 17 := by rw [← hxb, ByteArray.size_extract]; omega
          have hxcs : xc.size ≤ 17 := by rw [← hxc, ByteArray.size_extract]; omega
          have hw1 : IntKind.i64.wrap ((k : Int) + 1) = (m : Int) := by rw [IntWalk.i64_in _ (by omega)]; omega
          have hw2 : (k : Int) + 1 = (m : Int) := by omega
          have hm17 : m ≤ 17 := by omega
          have hmI : (m : Int) ≤ 17 := by omega
          have hmI0 : 0 ≤ (m : Int) := by omega
          have hkI0 : 0 ≤ (k : Int) := by omega
          have hkI17 : (k : Int) ≤ 17 := by omega
          have hkm : k ≤ m := by omega
          have hkmI : (k : Int) ≤ (m : Int) := by omega
          -- what Decode says of the four texts
          obtain ⟨e4, he4⟩ : ∃ e, decR (xa ++ xb) = e := ⟨_, rfl⟩
          have HD4 : Hid (∀ W, Below w.heap.size w W → Calls Tryz.prog 14 #[.string (xa ++ xb)] W fun e w' => e = .returned (.tuple #[.int .u8 e4.1, .string e4.2.1, .int .i64 e4.2.2.1, .int .i64 171]) ∧ Below W.heap.size W w') := fun W hW => by
            have h := HD.out (xa ++ xb) (by rw [ByteArray.size_append]; omega) W hW
            have h2 := dec_take h17 k hlt
            rw [hm, hxa, hxb] at h2
            rw [h2, he4] at h
            exact h
          obtain ⟨e5, he5⟩ : ∃ e, decR (xa ++ ⟨#[55]⟩ ++ xc) = e := ⟨_, rfl⟩
          have HD5 : Hid (∀ W, Below w.heap.size w W → Calls Tryz.prog 14 #[.string (xa ++ ⟨#[55]⟩ ++ xc)] W fun e w' => e = .returned (.tuple #[.int .u8 e5.1, .string e5.2.1, .int .i64 e5.2.2.1, .int .i64 171]) ∧ Below W.heap.size W w') := fun W hW => by
            have h := HD.out (xa ++ ⟨#[55]⟩ ++ xc) (by rw [ByteArray.size_append, ByteArray.size_append]; show xa.size + 1 + xc.size ≤ 100; omega) W hW
            have h2 := dec_more h17 k hlt
            rw [hxa, hxc] at h2
            rw [h2, he5] at h
            exact h
          obtain ⟨B3, hB3⟩ : ∃ B3, decide (¬ (48 ≤ b.toNat ∧ b.toNat ≤ 57)) = B3 := ⟨_, rfl⟩
          obtain ⟨e3, he3⟩ : ∃ e, decR (xa ++ ⟨#[b]⟩ ++ xb) = e := ⟨_, rfl⟩
          have HD3 : Hid (∀ W, Below w.heap.size w W → Calls Tryz.prog 14 #[.string (xa ++ ⟨#[b]⟩ ++ xb)] W fun e w' => e = .returned (.tuple #[.int .u8 e3.1, .string e3.2.1, .int .i64 e3.2.2.1, .int .i64 e3.2.2.2]) ∧ Below W.heap.size W w') := fun W hW => by
            have h := HD.out (xa ++ ⟨#[b]⟩ ++ xb) (by rw [ByteArray.size_append, ByteArray.size_append]; show xa.size + 1 + xb.size ≤ 100; omega) W hW
            rw [he3] at h
            exact h
          have hpe : putB sb k b = xa ++ ⟨#[b]⟩ ++ xb := by unfold putB; rw [h17, hm, hxa, hxb]
          have ht3 : (e3.2.2.2 == 171) = B3 := by
            rw [← he3, ← hpe, ← hB3, Bool.eq_iff_iff, beq_iff_eq, decide_eq_true_eq]
            exact dec_any_byte h17 HDG.out k hks b
          generalize e3.2.2.2 = er3 at HD3 ht3
          have hcv : ∀ W : World, Sem.run Tryz.prog (convert 27 9 (.slice (some ⟨W.heap.size, 0, none⟩) 1 1)) (W.alloc (.cells #[.int .u8 (b.toNat : Int)] 5)).drew = .ok (.string ⟨#[b]⟩) (W.alloc (.cells #[.int .u8 (b.toNat : Int)] 5)).drew := fun W => conv_one_drew W _ _ rfl
          have hov1 : ¬ 9223372036854775807 < xa.size + (⟨#[b]⟩ : ByteArray).size := by show ¬ 9223372036854775807 < xa.size + 1; omega
          have hov2 : ¬ 9223372036854775807 < xa.size + (⟨#[b]⟩ : ByteArray).size + xb.size := by show ¬ 9223372036854775807 < xa.size + 1 + xb.size; omega
          have hov3 : ¬ 9223372036854775807 < xa.size + xb.size := by omega
          have hov4 : ¬ 9223372036854775807 < xa.size + (⟨#[55]⟩ : ByteArray).size := by show ¬ 9223372036854775807 < xa.size + 1; omega
          have hov5 : ¬ 9223372036854775807 < xa.size + (⟨#[55]⟩ : ByteArray).size + xc.size := by show ¬ 9223372036854775807 < xa.size + 1 + xc.size; omega
          generalize (⟨#[b]⟩ : ByteArray) = cb at HD3 hcv hov1 hov2
          clear he3 hpe he4 he5
          go_wp2_with fail
          go_cut [103] (fun v wx => v = .bool B2 ∧ Below w.heap.size w wx)
          case first =>
            clear HD3 HD4 HD5 hcv hov1 hov2 hov3 hov4 hov5 ht3 hxa hxb hxc hw1 hw2
            by_cases hk0 : 0 < k
            · obtain ⟨m1, hm1⟩ : ∃ m1, k - 1 = m1 := ⟨_, rfl⟩
              have hm1s : m1 < sb.size := by omega
              have hd : decide (0 < k) = true := decide_eq_true hk0
              have ht2 : (((sb[m1]'hm1s).toNat : Int) != ((sb[k]'hks).toNat : Int)) = B2 := by
                rw [← HB2'.out, Bool.eq_iff_iff, bne_iff_ne, decide_eq_true_eq]
                subst hm1
                constructor
                · intro h; exact ⟨hk0, fun e => h (by rw [e])⟩
                · rintro ⟨_, h⟩ e
                  exact h (UInt8.toNat_inj.1 (by omega))
              have hwm : IntKind.i64.wrap ((k : Int) - 1) = (m1 : Int) := by rw [IntWalk.i64_in _ (by omega)]; omega
              have hwm2 : (k : Int) - 1 = (m1 : Int) := by omega
              have hm1I : (m1 : Int) < 17 := by omega
              have hm1I0 : 0 ≤ (m1 : Int) := by omega
              have hm117 : m1 < 17 := by omega
              have hkI16 : (k : Int) < 17 := by omega
              clear hm1 HB2' hk0
              go_quiet (fail)
              go_wp2_with fail
              go_meet
              exact ⟨rfl, below_drewN HBi.out _⟩
            · have hB : B2 = false := by
                rw [← HB2'.out, decide_eq_false_iff_not]
                rintro ⟨h, _⟩; exact hk0 h
              subst hB
              clear HB2'
              obtain rfl : k = 0 := by omega
              go_quiet (fail)
              go_wp2_with fail
              go_meet
              exact ⟨rfl, below_drewN HBi.out _⟩
          case rest =>
            obtain ⟨rfl, hBc⟩ := hcut
            have HBc := Lib.hid hBc
            clear hBc
            go_upto_if 103 with fail
            go_cut [21] (fun _ wx => Below w.heap.size w wx)
            case first =>
              cases B2
              · go_wp2_with fail
                go_meet
                exact HBc.out
              · have hE := of_decide_eq_true HB2'.out
                obtain ⟨hk0, hne⟩ := hE
                obtain ⟨m1, hm1⟩ : ∃ m1, k - 1 = m1 := ⟨_, rfl⟩
                obtain ⟨za, hza⟩ : ∃ za, sb.extract 0 m1 = za := ⟨_, rfl⟩
                obtain ⟨zy, hzy⟩ : ∃ zy, sb.extract k m = zy := ⟨_, rfl⟩
                obtain ⟨zx, hzx⟩ : ∃ zx, sb.extract m1 k = zx := ⟨_, rfl⟩
                have hzas : za.size ≤ 17 := by rw [← hza, ByteArray.size_extract]; omega
                have hzys : zy.size ≤ 17 := by rw [← hzy, ByteArray.size_extract]; omega
                have hzxs : zx.size ≤ 17 := by rw [← hzx, ByteArray.size_extract]; omega
                have hs172 : (decR (za ++ zy ++ zx ++ xb)).2.2.2 = 172 := by
                  have hkm1 : k - 1 + 1 = k := by omega
                  have h := dec_swap h17 HDG.out HPM.out (k - 1) (by omega) (by simp only [hkm1]; exact hne)
                  unfold swapB at h
                  rw [show k - 1 + 2 = m by omega, hkm1, hm1, h17, hza, hzy, hzx, hxb] at h
                  exact h
                obtain ⟨e2, he2⟩ : ∃ e, decR (za ++ zy ++ zx ++ xb) = e := ⟨_, rfl⟩
                have HD2 : Hid (∀ W, Below wc.heap.size wc W → Calls Tryz.prog 14 #[.string (za ++ zy ++ zx ++ xb)] W fun e w' => e = .returned (.tuple #[.int .u8 e2.1, .string e2.2.1, .int .i64 e2.2.2.1, .int .i64 172]) ∧ Below W.heap.size W w') := fun W hW => by
                  have h := HD.out (za ++ zy ++ zx ++ xb) (by rw [ByteArray.size_append, ByteArray.size_append, ByteArray.size_append]; omega) W (HBc.out.trans (hW.mono HBc.out.size))
                  rw [hs172, he2] at h
                  exact h
                have hwm : IntKind.i64.wrap ((k : Int) - 1) = (m1 : Int) := by rw [IntWalk.i64_in _ (by omega)]; omega
                have hwm2 : (k : Int) - 1 = (m1 : Int) := by omega
                have hm1I : (m1 : Int) ≤ 17 := by omega
                have hm1I0 : 0 ≤ (m1 : Int) := by omega
                have hm117 : m1 ≤ 17 := by omega
                have hm1k : m1 ≤ k := by omega
                have hm1kI : (m1 : Int) ≤ (k : Int) := by omega
                have hv1 : ¬ 9223372036854775807 < za.size + zy.size := by omega
                have hv2 : ¬ 9223372036854775807 < za.size + zy.size + zx.size := by omega
                have hv3 : ¬ 9223372036854775807 < za.size + zy.size + zx.size + xb.size := by omega
                clear hs172 he2 hm hm1 hne hk0 HB2' HD3 HD4 HD5 hcv hov1 hov2 hov3 hov4 hov5 ht3
                go_wp2_with fail
                refine wp_region_quiet_below (by kernel_rfl) (by kernel_rfl) ?_
                repeat (go_big_quiet_step ((with_reducible exact regrown_in HD2.out _)))
                refine wpQuiet_nil ?_
                intro _ hw'
                obtain ⟨pp, hw''⟩ := hw'
                subst hw''
                go_wp2_with fail
                go_meet
                exact HBc.out.trans ((below_in wc pp).mono HBc.out.size)
            case rest =>
              have HBd := Lib.hid hcut
              clear hcut HBc HBi HB2' hw2 hkm hkmI hm
              have ht4 : B3 = (decide ((b.toNat : Int) < 48) || decide (57 < (b.toNat : Int))) := by
                rw [← hB3, Bool.eq_iff_iff, Bool.or_eq_true, decide_eq_true_eq, decide_eq_true_eq, decide_eq_true_eq]; omega
              go_wp2_with fail
              go_region_with ((go_at_call 14; refine (HD3.out _ (HBd.out.alloc HBd.out.size _).drew).mono ?_; rintro e w3 ⟨rfl, hb3⟩; have HB3 : Hid (Below w.heap.size w w3) := (HBd.out.alloc HBd.out.size _).drew.trans (hb3.mono (HBd.out.alloc HBd.out.size _).size); clear hb3))
              clear hcv hov1 hov2 HD3
              have hways : (decide ((b.toNat : Int) < 48) = true ∧ B3 = true) ∨ (decide ((b.toNat : Int) < 48) = false ∧ decide (57 < (b.toNat : Int)) = true ∧ B3 = true) ∨ (decide ((b.toNat : Int) < 48) = false ∧ decide (57 < (b.toNat : Int)) = false ∧ B3 = false) := by
                cases h1 : decide ((b.toNat : Int) < 48)
                · cases h2 : decide (57 < (b.toNat : Int))
                  · rw [h1, h2] at ht4; exact .inr (.inr ⟨rfl, rfl, ht4⟩)
                  · rw [h1, h2] at ht4; exact .inr (.inl ⟨rfl, rfl, ht4⟩)
                · rw [h1, Bool.true_or] at ht4; exact .inl ⟨rfl, ht4⟩
              clear ht4 hB3
              rcases hways with ⟨h1, rfl⟩ | ⟨h1, h2, rfl⟩ | ⟨h1, h2, rfl⟩
              all_goals
                have HC4 : Hid (∀ W, Below w3.heap.size w3 W → Calls Tryz.prog 14 #[.string (xa ++ xb)] W fun e w' => e = .returned (.tuple #[.int .u8 e4.1, .string e4.2.1, .int .i64 e4.2.2.1, .int .i64 171]) ∧ Below W.heap.size W w') := fun W hW => HD4.out W (HB3.out.trans (hW.mono HB3.out.size))
                clear HD4
                go_wp2_with fail
                refine wp_region_quiet_below (by kernel_rfl) (by kernel_rfl) ?_
                repeat (go_big_quiet_step ((with_reducible exact regrown_in HC4.out _)))
                refine wpQuiet_nil ?_
                intro _ hw'
                obtain ⟨pp, hw''⟩ := hw'
                subst hw''
                have HBf : Hid (Below w.heap.size w (grow (redrawn w3 pp.d) pp.os)) := HB3.out.trans ((below_in w3 pp).mono HB3.out.size)
                clear HC4 HB3
                generalize grow (redrawn w3 pp.d) pp.os = wf at HBf ⊢
                have HC5 : Hid (∀ W, Below wf.heap.size wf W → Calls Tryz.prog 14 #[.string (xa ++ ⟨#[55]⟩ ++ xc)] W fun e w' => e = .returned (.tuple #[.int .u8 e5.1, .string e5.2.1, .int .i64 e5.2.2.1, .int .i64 171]) ∧ Below W.heap.size W w') := fun W hW => HD5.out W (HBf.out.trans (hW.mono HBf.out.size))
                clear HD5
                go_wp2_with fail
                refine wp_region_quiet_below (by kernel_rfl) (by kernel_rfl) ?_
                repeat (go_big_quiet_step ((with_reducible exact regrown_in HC5.out _)))
                refine wpQuiet_nil ?_
                intro _ hw'
                obtain ⟨pp2, hw''⟩ := hw'
                subst hw''
                have HBg : Hid (Below w.heap.size w (grow (redrawn wf pp2.d) pp2.os)) := HBf.out.trans ((below_in wf pp2).mono HBf.out.size)
                clear HC5 HBf hxa hxb hxc hw1
                go_wp2_with fail
                go_roundw
                case rel => exact ⟨k + 1, by omega, by go_num, HBg.out⟩
                case measure => simp [intOf]; omega
    · obtain rfl : k = 17 := by omega
      go_wp2_with fail
      refine (HAW.out _ HB.out).mono ?_
      rintro e w3 ⟨rfl, hb3⟩
      go_wp2_with fail
      go_ret
      exact ⟨rfl, hb3⟩
end Go.Proofs.YtgdlgfplheeblaaGreatDoor
