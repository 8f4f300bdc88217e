/-
  LexSmall: the walk.
-/
import Derived.Test.YtdcpmnkebhilpaaGreatDoorS5
import Derived.Deep.RegionWith
import Derived.Deep.DeepCutAuto
namespace Go.Proofs.YtdcpmnkebhilpaaGreatDoor
open Go.RowKit Go.Shelf Go.Sort
set_option linter.unusedVariables false
set_option maxRecDepth 100000
theorem conv_three (W : World) (a b c : UInt8) (x y z : Int) (hx : x = (a.toNat : Int)) (hy : y = (b.toNat : Int)) (hz : z = (c.toNat : Int)) : Sem.run Tryz.prog (convert 23 9 (.slice (some ⟨W.heap.size, 0, none⟩) 3 3)) (W.alloc (.cells #[.int .u8 x, .int .u8 y, .int .u8 z] 5)).drew = .ok (.string ⟨#[a, b, c]⟩) (W.alloc (.cells #[.int .u8 x, .int .u8 y, .int .u8 z] 5)).drew := by
  subst hx hy hz
  refine run_convert_bytes_back (P := Tryz.prog) _ 23 9 5 ⟨W.heap.size, 0, none⟩ 3 [a, b, c] Tryz.underlying23 Tryz.underlying5 Tryz.underlying9 (fun j hj => ?_)
  have ea : (⟨W.heap.size, 0, none⟩ : Addr).add j = ⟨W.heap.size, j, none⟩ := by unfold Addr.add; split <;> simp_all
  rw [ea]
  show (W.alloc _).cell? _ = _
  rw [World.cell?_alloc_new]
  have hj1 : j < 3 := hj
  have : j = 0 ∨ j = 1 ∨ j = 2 := by omega
  rcases this with rfl | rfl | rfl <;> rfl
theorem conv_one (W : World) (a : UInt8) (x : Int) (hx : x = (a.toNat : Int)) : Sem.run Tryz.prog (convert 23 9 (.slice (some ⟨W.heap.size, 0, none⟩) 1 1)) (W.alloc (.cells #[.int .u8 x] 5)) = .ok (.string ⟨#[a]⟩) (W.alloc (.cells #[.int .u8 x] 5)) := by
  subst hx
  refine run_convert_bytes_back (P := Tryz.prog) _ 23 9 5 ⟨W.heap.size, 0, none⟩ 1 [a] Tryz.underlying23 Tryz.underlying5 Tryz.underlying9 (fun j hj => ?_)
  have ea : (⟨W.heap.size, 0, none⟩ : Addr).add j = ⟨W.heap.size, j, none⟩ := by unfold Addr.add; split <;> simp_all
  rw [ea, World.cell?_alloc_new]
  have hj1 : j < 1 := hj
  obtain rfl : j = 0 := by omega
  rfl
def abc : ByteArray := ⟨#[95, 65, 90, 48, 49, 57, 45, 47, 32, 97, 64, 77]⟩
def sevQ : ByteArray := ⟨#[55, 81]⟩
theorem wrap_pow (n : Nat) (h : n < 8) : wrap64 ((2 : Int) ^ n) = ((2 ^ n : Nat) : Int) ∧ 1 ≤ 2 ^ n ∧ 2 ^ n ≤ 128 := by
  rcases (by omega : n = 0 ∨ n = 1 ∨ n = 2 ∨ n = 3 ∨ n = 4 ∨ n = 5 ∨ n = 6 ∨ n = 7) with rfl | rfl | rfl | rfl | rfl | rfl | rfl | rfl
  all_goals exact ⟨by kernel_rfl, by decide, by decide⟩
theorem and_one64 (n : Int) : bits BinOp.and IntKind.i64 n 1 = n % 2 := by
  have h1 : (BitVec.ofInt 64 n).toNat = (n % 18446744073709551616).toNat := BitVec.toNat_ofInt ..
  have h2 : (BitVec.ofInt 64 1).toNat = 1 := by decide
  have h3 : IntKind.i64.bits = 64 := rfl
  have h4 : IntKind.i64.wrap (((n % 18446744073709551616).toNat % 2 : Nat) : Int) = (((n % 18446744073709551616).toNat % 2 : Nat) : Int) := IntWalk.i64_in _ (by omega)
  show IntKind.i64.wrap ((BitVec.ofInt 64 n &&& BitVec.ofInt 64 1).toNat : Int) = _
  rw [BitVec.toNat_and, h1, h2, Nat.and_one_is_mod, h4]
  omega
theorem bit_at (i j : Nat) : ∃ y : Nat, y < 2 ∧ bits BinOp.and IntKind.i64 ((i : Int) / 2 ^ j) 1 = (y : Int) := by
  refine ⟨(((i : Int) / 2 ^ j) % 2).toNat, by omega, ?_⟩
  rw [and_one64]
  omega
set_option maxHeartbeats 32000000 in
theorem lexSmall_walk (m : Int) (w : World) (hmx : MxW m w) (hsp : SpW w) : Calls Tryz.prog 3 #[] w fun e w' => e = .returned (.bool true) ∧ Below w.heap.size w w' := by
  have HMX := Lib.hid hmx
  have HLIM := Lib.hid (fun (W : World) (hW : Below w.heap.size w W) => limits_any m W (hmx.below hW) (hsp.below hW))
  have HLN := Lib.hid (fun (s : ByteArray) (W : World) (hW : Below w.heap.size w W) (hs : s.size ≤ 200) => lawLines_any s m W (by omega) (hmx.below hW).lt (hmx.below hW).at_)
  have HW := Lib.hid (fun (c : Int) (s : ByteArray) (W : World) (hs : s.size ≤ 1000) => word_any c s W (by omega))
  clear hmx
  go_enter Tryz.func3, Tryz.ntmps3
  go_wp2_with fail
  go_loopw [1] (fun i wr => ∃ k : Nat, k ≤ 1728 ∧ i = .int .i64 k ∧ Hid (Below w.heap.size w wr)) (fun i _ => 1728 - (intOf i).toNat)
  case atStart => exact ⟨0, by omega, rfl, Below.refl _ _⟩
  case round =>
    obtain ⟨k, hk, rfl, HB⟩ := hrel
    by_cases hlt : k < 1728
    · have hd : decide ((k : Int) < 1728) = true := decide_eq_true (by omega)
      obtain ⟨a, ha⟩ : ∃ a, k % 12 = a := ⟨_, rfl⟩
      obtain ⟨d, hd2⟩ : ∃ d, k / 12 = d := ⟨_, rfl⟩
      obtain ⟨b, hb⟩ : ∃ b, d % 12 = b := ⟨_, rfl⟩
      obtain ⟨c, hc⟩ : ∃ c, k / 144 = c := ⟨_, rfl⟩
      have a1 : ((k : Int)).tmod 12 = (a : Int) := (tmod_nat ha).1
      have a2 : ((k : Int)) % 12 = (a : Int) := (tmod_nat ha).2
      have d1 : ((k : Int)).tdiv 12 = (d : Int) := (tdiv_nat hd2).1
      have d2 : ((k : Int)) / 12 = (d : Int) := (tdiv_nat hd2).2
      have b1 : ((d : Int)).tmod 12 = (b : Int) := (tmod_nat hb).1
      have b2 : ((d : Int)) % 12 = (b : Int) := (tmod_nat hb).2
      have c1 : ((k : Int)).tdiv 144 = (c : Int) := (tdiv_nat hc).1
      have c2 : ((k : Int)) / 144 = (c : Int) := (tdiv_nat hc).2
      have la : a < 12 := by omega
      have lb : b < 12 := by omega
      have lc : c < 12 := by omega
      have ld : d < 144 := by omega
      have wpd : IntKind.i64.wrap (d : Int) = (d : Int) := IntWalk.i64_in _ (by omega)
      have wpc : IntKind.i64.wrap (c : Int) = (c : Int) := IntWalk.i64_in _ (by omega)
      have hcv := conv_three wr (abc[a]'la) (abc[b]'lb) (abc[c]'lc) _ _ _ rfl rfl rfl
      obtain ⟨cb, hcb⟩ : ∃ cb : ByteArray, cb = ⟨#[abc[a]'la, abc[b]'lb, abc[c]'lc]⟩ := ⟨_, rfl⟩
      have hcs : cb.size = 3 := by rw [hcb]; rfl
      rw [← hcb] at hcv
      unfold abc at hcv
      clear ha hd2 hb hc hcb
      go_upto_region 4 with fail
      go_cut [2] from 16 to 28 (fun s wx => ∃ t : ByteArray, s = .string t ∧ t.size ≤ 3 ∧ Below wr.heap.size wr wx)
      case first =>
        go_region_with (go_at_call 4; refine (trimU_any cb _ (by omega)).mono ?_; rintro e w1 ⟨t, rfl, ht, hb1⟩)
        all_goals
          go_wp2_with fail
          go_meet
          exact ⟨t, rfl, by omega, ((Below.refl _ wr).alloc (Nat.le_refl _) _).drew.trans (hb1.mono (by show wr.heap.size ≤ (wr.alloc _).heap.size; rw [World.size_alloc]; omega))⟩
      case rest =>
        obtain ⟨t, rfl, ht, hbx⟩ := hcut
        have hB : Below w.heap.size w wc := HB.out.trans (hbx.mono HB.out.size)
        obtain ⟨r5, hr5⟩ : ∃ r, k % 5 = r := ⟨_, rfl⟩
        have m1 : ((k : Int)).tmod 5 = (r5 : Int) := (tmod_nat hr5).1
        have m2 : ((k : Int)) % 5 = (r5 : Int) := (tmod_nat hr5).2
        clear hr5
        have hov1 : ¬ 9223372036854775807 < 1 + t.size := by omega
        clear hbx HB hcv a1 a2 b1 b2 c1 c2 d1 d2 wpd wpc la lb lc ld
        go_wp2_with fail
        refine (HW.out _ _ _ (by first | omega | (decide; done) | ((try simp only [ByteArray.size_append]); obtain ⟨l0, l1, l2, l3, l4, l5, l6, l7, l8, l9, l10, l11, l12, l13, l14, l15⟩ := lits; omega))).mono ?_
        rintro e w' ⟨rfl, hb'⟩
        replace hB := hB.trans (hb'.mono hB.size)
        clear hb'
        go_wp2_with fail
        refine (HW.out _ _ _ (by first | omega | (decide; done) | ((try simp only [ByteArray.size_append]); obtain ⟨l0, l1, l2, l3, l4, l5, l6, l7, l8, l9, l10, l11, l12, l13, l14, l15⟩ := lits; omega))).mono ?_
        rintro e w' ⟨rfl, hb'⟩
        replace hB := hB.trans (hb'.mono hB.size)
        clear hb'
        go_wp2_with fail
        refine (tok_one _ (HMX.out.below hB) (by first | omega | (decide; done) | ((try simp only [ByteArray.size_append]); obtain ⟨l0, l1, l2, l3, l4, l5, l6, l7, l8, l9, l10, l11, l12, l13, l14, l15⟩ := lits; omega))).mono ?_
        rintro e w' ⟨rfl, hb'⟩
        replace hB := hB.trans (hb'.mono hB.size)
        clear hb'
        go_wp2_with fail
        refine (tok_two _ _ (HMX.out.below hB) (by first | omega | (decide; done) | ((try simp only [ByteArray.size_append]); obtain ⟨l0, l1, l2, l3, l4, l5, l6, l7, l8, l9, l10, l11, l12, l13, l14, l15⟩ := lits; omega)) (by first | omega | (decide; done) | ((try simp only [ByteArray.size_append]); obtain ⟨l0, l1, l2, l3, l4, l5, l6, l7, l8, l9, l10, l11, l12, l13, l14, l15⟩ := lits; omega))).mono ?_
        rintro e w' ⟨rfl, hb'⟩
        replace hB := hB.trans (hb'.mono hB.size)
        clear hb'
        go_wp2_with fail
        go_roundw
        case rel => exact ⟨k + 1, by omega, by go_num, hB⟩
        case measure => simp [intOf]; omega
    · have hd0 : decide ((k : Int) < 1728) = false := decide_eq_false (by omega)
      clear hk
      go_wp2_with fail
      go_loopw [3] (fun v wr => ∃ n : Nat, n ≤ 8 ∧ v = .int .i64 n ∧ Hid (Below w.heap.size w wr)) (fun v _ => 8 - (intOf v).toNat)
      case atStart => exact ⟨0, by omega, rfl, HB⟩
      case round =>
        obtain ⟨n, hn, rfl, HB1⟩ := hrel
        clear HB
        by_cases hn8 : n < 8
        · have hd8 : decide ((n : Int) ≤ 7) = true := decide_eq_true (by omega)
          obtain ⟨q1, q2, q3⟩ := wrap_pow n hn8
          obtain ⟨p, hp⟩ : ∃ p, 2 ^ n = p := ⟨_, rfl⟩
          rw [hp] at q1 q2 q3
          clear hp
          go_wp2_with fail
          go_loopw [4] (fun v wr => ∃ i : Nat, i ≤ p ∧ v = .int .i64 i ∧ Hid (Below w.heap.size w wr)) (fun v _ => p - (intOf v).toNat)
          case atStart => exact ⟨0, by omega, rfl, HB1⟩
          case round =>
            obtain ⟨i, hi, rfl, HB2⟩ := hrel
            clear HB1
            by_cases hip : i < p
            · have hdi : decide ((i : Int) < (p : Int)) = true := decide_eq_true (by omega)
              go_wp2_with fail
              simp only [q1]
              go_loopw [5, 6] (fun sv kv wr => ∃ (j : Nat) (sb : ByteArray), j ≤ n ∧ kv = .int .i64 j ∧ sv = .string sb ∧ sb.size = j ∧ Hid (Below w.heap.size w wr)) (fun _ kv _ => n - (intOf kv).toNat)
              case atStart => exact ⟨0, ⟨#[]⟩, by omega, rfl, rfl, rfl, HB2⟩
              case round =>
                obtain ⟨j, sb, hj, rfl, rfl, hsz, HB3⟩ := hrel
                have hsb7 : sb.size ≤ 7 := by omega
                have HSJ := Lib.hid hsz
                clear hsz
                clear HB2
                by_cases hjn : j < n
                · have hdj : decide ((j : Int) < (n : Int)) = true := decide_eq_true (by omega)
                  obtain ⟨y, hy2, hy⟩ := bit_at i j
                  have hcv := conv_one wr (sevQ[y]'hy2) _ rfl
                  obtain ⟨cb, hcb⟩ : ∃ cb : ByteArray, cb = ⟨#[sevQ[y]'hy2]⟩ := ⟨_, rfl⟩
                  have hcs : cb.size = 1 := by rw [hcb]; rfl
                  rw [← hcb] at hcv
                  unfold sevQ at hcv
                  have hov : ¬ 9223372036854775807 < sb.size + cb.size := by omega
                  have HBA : Hid (∀ o, Below w.heap.size w (wr.alloc o)) := fun o => HB3.out.alloc HB3.out.size o
                  have HSZ : Hid ((sb ++ cb).size = j + 1) := by show _ = _; rw [ByteArray.size_append, hcs, HSJ.out]
                  clear hcb HB3
                  go_wp2_with fail
                  go_roundw
                  case rel => exact ⟨j + 1, _, by omega, by go_num, rfl, HSZ.out, HBA.out _⟩
                  case measure => simp [intOf]; omega
                · have hdj : decide ((j : Int) < (n : Int)) = false := decide_eq_false (by omega)
                  go_wp2_with fail
                  go_loopw [7] (fun cv wr => ∃ c : Nat, c ≤ 5 ∧ cv = .int .u8 c ∧ Hid (Below w.heap.size w wr)) (fun cv _ => 5 - (intOf cv).toNat)
                  case atStart => exact ⟨0, by omega, rfl, HB3⟩
                  case round =>
                    obtain ⟨c, hc, rfl, HB4⟩ := hrel
                    clear HB3
                    by_cases hc5 : c < 5
                    · have hdc : decide ((c : Int) < 5) = true := decide_eq_true (by omega)
                      have hB := HB4.out
                      clear HB4
                      go_wp2_with fail
                      refine (HW.out _ _ _ (by first | omega | (decide; done) | ((try simp only [ByteArray.size_append]); obtain ⟨l0, l1, l2, l3, l4, l5, l6, l7, l8, l9, l10, l11, l12, l13, l14, l15⟩ := lits; omega))).mono ?_
                      rintro e w' ⟨rfl, hb'⟩
                      replace hB := hB.trans (hb'.mono hB.size)
                      clear hb'
                      go_wp2_with fail
                      refine (HW.out _ _ _ (by first | omega | (decide; done) | ((try simp only [ByteArray.size_append]); obtain ⟨l0, l1, l2, l3, l4, l5, l6, l7, l8, l9, l10, l11, l12, l13, l14, l15⟩ := lits; omega))).mono ?_
                      rintro e w' ⟨rfl, hb'⟩
                      replace hB := hB.trans (hb'.mono hB.size)
                      clear hb'
                      go_wp2_with fail
                      refine (HW.out _ _ _ (by first | omega | (decide; done) | ((try simp only [ByteArray.size_append]); obtain ⟨l0, l1, l2, l3, l4, l5, l6, l7, l8, l9, l10, l11, l12, l13, l14, l15⟩ := lits; omega))).mono ?_
                      rintro e w' ⟨rfl, hb'⟩
                      replace hB := hB.trans (hb'.mono hB.size)
                      clear hb'
                      go_wp2_with fail
                      have HB5 := Lib.hid hB
                      clear hB
                      go_loopw [8] (fun kv wr => ∃ q : Nat, q ≤ sb.size + 1 ∧ kv = .int .i64 q ∧ Hid (Below w.heap.size w wr)) (fun kv _ => sb.size + 1 - (intOf kv).toNat)
                      case atStart => exact ⟨0, by omega, rfl, HB5⟩
                      case round =>
                        obtain ⟨q, hq, rfl, HB6⟩ := hrel
                        clear HB5
                        by_cases hqs : q ≤ sb.size
                        · have hdq : decide ((q : Int) ≤ (sb.size : Int)) = true := decide_eq_true (by omega)
                          obtain ⟨xa, hxa⟩ : ∃ xa, sb.extract 0 q = xa := ⟨_, rfl⟩
                          obtain ⟨yb, hyb⟩ : ∃ yb, sb.extract q sb.size = yb := ⟨_, rfl⟩
                          have hxs : xa.size ≤ 7 := by rw [← hxa, ByteArray.size_extract]; omega
                          have hys : yb.size ≤ 7 := by rw [← hyb, ByteArray.size_extract]; omega
                          have hv1 : ¬ 9223372036854775807 < xa.size + 1 := by omega
                          have CW1 : Hid (∀ W, Below wr.heap.size wr W → Calls Tryz.prog 5 #[.int .u8 c, .string (xa ++ ⟨#[32]⟩ ++ yb)] W fun e w' => e = .returned (.bool true) ∧ Below W.heap.size W w') := fun W _ => HW.out _ _ _ (by first | omega | (decide; done) | ((try simp only [ByteArray.size_append]); obtain ⟨l0, l1, l2, l3, l4, l5, l6, l7, l8, l9, l10, l11, l12, l13, l14, l15⟩ := lits; omega))
                          have CW2 : Hid (∀ W, Below wr.heap.size wr W → Calls Tryz.prog 5 #[.int .u8 c, .string (xa ++ ⟨#[45]⟩ ++ yb)] W fun e w' => e = .returned (.bool true) ∧ Below W.heap.size W w') := fun W _ => HW.out _ _ _ (by first | omega | (decide; done) | ((try simp only [ByteArray.size_append]); obtain ⟨l0, l1, l2, l3, l4, l5, l6, l7, l8, l9, l10, l11, l12, l13, l14, l15⟩ := lits; omega))
                          have HBN : Hid (∀ pp : Regrown, Below w.heap.size w (grow (redrawn wr pp.d) pp.os)) := fun pp => HB6.out.trans ((below_inM wr pp).mono HB6.out.size)
                          obtain ⟨z, hz⟩ : ∃ z, ((c : Int) == 0) = z := ⟨_, rfl⟩
                          cases z
                          all_goals
                            go_wp2_with fail
                            refine wp_region_quiet_below (by kernel_rfl) (by kernel_rfl) ?_
                            repeat (go_big_quiet_step (first | (with_reducible exact regrown_in CW1.out _) | (with_reducible exact regrown_in CW2.out _)))
                            refine wpQuiet_nil ?_
                            intro _ hw'
                            obtain ⟨pp, hw''⟩ := hw'
                            subst hw''
                            go_wp2_with fail
                            go_roundw
                            case rel => exact ⟨q + 1, by omega, by go_num, HBN.out pp⟩
                            case measure => simp [intOf]; omega
                        · have hdq : decide ((q : Int) ≤ (sb.size : Int)) = false := decide_eq_false (by omega)
                          go_wp2_with fail
                          go_roundw
                          case rel => exact ⟨c + 1, by omega, by go_num, HB6⟩
                          case measure => simp [intOf]; omega
                    · have hdc : decide ((c : Int) < 5) = false := decide_eq_false (by omega)
                      go_wp2_with fail
                      go_roundw
                      case rel => exact ⟨i + 1, by omega, by go_num, HB4⟩
                      case measure => simp [intOf]; omega
            · have hdi : decide ((i : Int) < (p : Int)) = false := decide_eq_false (by omega)
              go_wp2_with fail
              go_roundw
              case rel => exact ⟨n + 1, by omega, by go_num, HB2⟩
              case measure => simp [intOf]; omega
        · have hd8 : decide ((n : Int) ≤ 7) = false := decide_eq_false (by omega)
          go_wp2_with fail
          go_loopw [9] (fun v wr => ∃ i : Nat, i ≤ 256 ∧ v = .int .i64 i ∧ Hid (Below w.heap.size w wr)) (fun v _ => 256 - (intOf v).toNat)
          case atStart => exact ⟨0, by omega, rfl, HB1⟩
          case round =>
            obtain ⟨i, hi, rfl, HB2⟩ := hrel
            clear HB1
            by_cases hi6 : i < 256
            · have hdi : decide ((i : Int) < 256) = true := decide_eq_true (by omega)
              have hwk : IntKind.u8.wrap (i : Int) = (i : Int) := IntWalk.u8_in _ (by omega)
              have hcv := conv_one wr (UInt8.ofNat i) (i : Int) (by rw [UInt8.toNat_ofNat']; omega)
              obtain ⟨cb, hcb⟩ : ∃ cb : ByteArray, cb = ⟨#[UInt8.ofNat i]⟩ := ⟨_, rfl⟩
              have hcs : cb.size = 1 := by rw [hcb]; rfl
              rw [← hcb] at hcv
              have HBA : Hid (∀ o, Below w.heap.size w (wr.alloc o)) := fun o => HB2.out.alloc HB2.out.size o
              have hcl : cb.size ≤ 1 := by omega
              have HCS := Lib.hid hcs
              clear hcb hcs HB2
              go_wp2_with fail
              go_loopw [11] (fun cv wr => ∃ c : Nat, c ≤ 4 ∧ cv = .int .u8 c ∧ Hid (Below w.heap.size w wr)) (fun cv _ => 4 - (intOf cv).toNat)
              case atStart => exact ⟨0, by omega, rfl, HBA.out _⟩
              case round =>
                obtain ⟨c, hc, rfl, HB3⟩ := hrel
                clear HBA hcv
                by_cases hc4 : c < 4
                · have hdc : decide ((c : Int) < 4) = true := decide_eq_true (by omega)
                  have hB := HB3.out
                  clear HB3
                  go_wp2_with fail
                  refine (HW.out _ _ _ (by first | omega | (decide; done) | ((try simp only [ByteArray.size_append]); obtain ⟨l0, l1, l2, l3, l4, l5, l6, l7, l8, l9, l10, l11, l12, l13, l14, l15⟩ := lits; omega))).mono ?_
                  rintro e w' ⟨rfl, hb'⟩
                  replace hB := hB.trans (hb'.mono hB.size)
                  clear hb'
                  go_wp2_with fail
                  refine (HW.out _ _ _ (by first | omega | (decide; done) | ((try simp only [ByteArray.size_append]); obtain ⟨l0, l1, l2, l3, l4, l5, l6, l7, l8, l9, l10, l11, l12, l13, l14, l15⟩ := lits; omega))).mono ?_
                  rintro e w' ⟨rfl, hb'⟩
                  replace hB := hB.trans (hb'.mono hB.size)
                  clear hb'
                  go_wp2_with fail
                  refine (HW.out _ _ _ (by first | omega | (decide; done) | ((try simp only [ByteArray.size_append]); obtain ⟨l0, l1, l2, l3, l4, l5, l6, l7, l8, l9, l10, l11, l12, l13, l14, l15⟩ := lits; omega))).mono ?_
                  rintro e w' ⟨rfl, hb'⟩
                  replace hB := hB.trans (hb'.mono hB.size)
                  clear hb'
                  go_wp2_with fail
                  refine (HW.out _ _ _ (by first | omega | (decide; done) | ((try simp only [ByteArray.size_append]); obtain ⟨l0, l1, l2, l3, l4, l5, l6, l7, l8, l9, l10, l11, l12, l13, l14, l15⟩ := lits; omega))).mono ?_
                  rintro e w' ⟨rfl, hb'⟩
                  replace hB := hB.trans (hb'.mono hB.size)
                  clear hb'
                  go_wp2_with fail
                  refine (HW.out _ _ _ (by first | omega | (decide; done) | ((try simp only [ByteArray.size_append]); obtain ⟨l0, l1, l2, l3, l4, l5, l6, l7, l8, l9, l10, l11, l12, l13, l14, l15⟩ := lits; omega))).mono ?_
                  rintro e w' ⟨rfl, hb'⟩
                  replace hB := hB.trans (hb'.mono hB.size)
                  clear hb'
                  go_wp2_with fail
                  go_roundw
                  case rel => exact ⟨c + 1, by omega, by go_num, hB⟩
                  case measure => simp [intOf]; omega
                · have hdc : decide ((c : Int) < 4) = false := decide_eq_false (by omega)
                  have hB := HB3.out
                  clear HB3
                  go_wp2_with fail
                  refine (HW.out _ _ _ (by first | omega | (decide; done) | ((try simp only [ByteArray.size_append]); obtain ⟨l0, l1, l2, l3, l4, l5, l6, l7, l8, l9, l10, l11, l12, l13, l14, l15⟩ := lits; omega))).mono ?_
                  rintro e w' ⟨rfl, hb'⟩
                  replace hB := hB.trans (hb'.mono hB.size)
                  clear hb'
                  go_wp2_with fail
                  refine (HW.out _ _ _ (by first | omega | (decide; done) | ((try simp only [ByteArray.size_append]); obtain ⟨l0, l1, l2, l3, l4, l5, l6, l7, l8, l9, l10, l11, l12, l13, l14, l15⟩ := lits; omega))).mono ?_
                  rintro e w' ⟨rfl, hb'⟩
                  replace hB := hB.trans (hb'.mono hB.size)
                  clear hb'
                  go_wp2_with fail
                  refine (HW.out _ _ _ (by first | omega | (decide; done) | ((try simp only [ByteArray.size_append]); obtain ⟨l0, l1, l2, l3, l4, l5, l6, l7, l8, l9, l10, l11, l12, l13, l14, l15⟩ := lits; omega))).mono ?_
                  rintro e w' ⟨rfl, hb'⟩
                  replace hB := hB.trans (hb'.mono hB.size)
                  clear hb'
                  go_wp2_with fail
                  refine (HLN.out _ _ hB (by first | omega | (decide; done) | ((try simp only [ByteArray.size_append]); obtain ⟨l0, l1, l2, l3, l4, l5, l6, l7, l8, l9, l10, l11, l12, l13, l14, l15⟩ := lits; omega))).mono ?_
                  rintro e w' ⟨rfl, hb'⟩
                  replace hB := hB.trans (hb'.mono hB.size)
                  clear hb'
                  go_wp2_with fail
                  go_roundw
                  case rel => exact ⟨i + 1, by omega, by go_num, hB⟩
                  case measure => simp [intOf]; omega
            · have hdi : decide ((i : Int) < 256) = false := decide_eq_false (by omega)
              go_wp2_with fail
              refine (HLIM.out _ HB2.out).mono ?_
              rintro e w5 ⟨rfl, hb5⟩
              have HB5 := Lib.hid (HB2.out.trans (hb5.mono HB2.out.size))
              clear hb5
              go_wp2_with fail
              refine (awake_any m _ (HMX.out.below HB5.out).lt (HMX.out.below HB5.out).at_).mono ?_
              rintro e w6 ⟨rfl, hb6⟩
              have HB6 := Lib.hid (HB5.out.trans (hb6.mono HB5.out.size))
              clear hb6
              go_wp2_with fail
              go_ret
              exact ⟨rfl, HB6.out⟩
end Go.Proofs.YtdcpmnkebhilpaaGreatDoor
