/-
  Contract of Made.
-/
import Derived.Test.YtdahgfopighhlaaSO
import Derived.Deep.CutBlock
import Derived.Deep.RegionLaw
namespace Go.Proofs.Ytdahgfopighhlaa
open Go.RowKit
set_option linter.unusedVariables false
set_option maxRecDepth 100000
theorem bt_true {n m : Int} (h : bt n m = true) : 0 < bits BinOp.and IntKind.u32 n m := by unfold bt at h; simpa using h
theorem bt_false {n m : Int} (h : bt n m = false) : bits BinOp.and IntKind.u32 n m ≤ 0 := by unfold bt at h; simpa using h
set_option maxHeartbeats 16000000 in
theorem made_any (n : Int) (vl vc : Value) (least cents : List UInt8) (w : World) (hn0 : 0 ≤ n) (hn1 : n < 4294967296) (hrl : RdBytes w vl least) (hrc : RdBytes w vc cents) (hll : least.length ≤ maxLen) (hcl : cents.length ≤ maxLen) :
    Calls Try.prog 11 #[.int .u32 n, vl, vc] w fun e w' => ∃ v, e = .returned v ∧ Below w.heap.size w w' ∧ OwnsLv w' w.heap.size v (madeR (bitsOf n) least cents) := by
  obtain ⟨B, hB⟩ : ∃ B, bitsOf n = B := ⟨_, rfl⟩
  rw [hB]
  have HB := Lib.hid hB
  have HLN := Lib.hid (mk_len B least cents)
  have HADD := Lib.hid (fun l sv out wx hM hsv hc0 ho3 hx => made1_any l sv vl vc least cents out w wx hrl hrc hll hcl hM hsv hc0 ho3 hx)
  unfold lvA at HADD
  have HRC := Lib.hid hrc
  unfold maxLen at hcl hll
  obtain ⟨la, lc, rfl, _⟩ := hrl
  obtain ⟨ca, cc, rfl, _⟩ := hrc
  obtain ⟨i0, hi⟩ := info_parts Try.infoB
  have HI := Lib.hid hi
  obtain ⟨i1, hi1⟩ := info_parts Try.infoL
  have HI1 := Lib.hid hi1
  clear hi hi1 hB
  go_enter Try.func11, Try.ntmps11
  go_upto_if 22 with fail
  generalize hwa : ((w.alloc (.cells #[.slice la least.length lc] 23)).alloc (.cells #[.slice ca cents.length cc] 23)).alloc (.cells #[.slice none 0 0] 25) = wa
  have hM : MR w (.slice la least.length lc) (.slice ca cents.length cc) [] wa := by
    rw [← hwa]
    have h := fun j o => @allocs_block w [.cells #[.slice la least.length lc] 23, .cells #[.slice ca cents.length cc] 23, .cells #[.slice none 0 0] 25] j o
    exact ⟨(((Below.refl _ w).alloc (Nat.le_refl _) _).alloc (by simp) _).alloc (by simp; omega) _, h 0 _ rfl, h 1 _ rfl, _, h 2 _ rfl, OwnsLv.nil _ _⟩
  have hx : w.heap.size + 3 ≤ wa.heap.size := by rw [← hwa]; simp
  clear hwa
  go_cut [9] (fun _ wx => MR w (.slice la least.length lc) (.slice ca cents.length cc) (mk1 B least cents) wx ∧ w.heap.size + 3 ≤ wx.heap.size)
  case first =>
    cases hf : bt n 1
    · have HM : Hid (MR w (.slice la least.length lc) (.slice ca cents.length cc) (mk1 B least cents) wa) := by
        have e : B.f5 = false := by rw [← HB.out]; exact hf
        unfold mk1; rw [e]; exact hM
      have hf' := bt_false hf
      have hfd : decide (0 < bits BinOp.and IntKind.u32 n 1) = false := hf
      rw [hfd]
      clear hf hfd
      go_wp2_with fail
      go_meet
      exact ⟨HM.out, hx⟩
    · have hfe : B.f5 = true := by rw [← HB.out]; exact hf
      have HFE := Lib.hid hfe
      have hf' := bt_true hf
      have hfd : decide (0 < bits BinOp.and IntKind.u32 n 1) = true := hf
      rw [hfd]
      clear hf hfe hfd
      go_wp2_with fail
      go_loopw [26] (fun i wr => ∃ k : Nat, k ≤ 5 ∧ i = .int .i64 k ∧ SR wa ⟨#[102, 105, 118, 101]⟩ 5 (pre5.map Value.string).toArray (sel pre5 lab5 B.b5 k) wr) (fun i _ => 5 - (intOf i).toNat)
      case atStart => exact ⟨0, Nat.zero_le _, rfl, SR_start wa _ _ _⟩
      case round =>
        obtain ⟨k, hk, rfl, hS⟩ := hrel
        by_cases hlt : k < 5
        · have hpl : k < pre5.length := hlt
          have HSU := Lib.hid (sel_succ pre5 lab5 B.b5 k hpl)
          have hsl : (sel pre5 lab5 B.b5 k).length ≤ 100 := by have := sel_len pre5 lab5 B.b5 k; omega
          obtain ⟨sa, sc, gv, cv, w1, c2, hlw, hrun, d2, dz, hS2⟩ := SR_step (W := (wr.alloc (.cells #[.string (lab5 pre5[k]).pre, .string (lab5 pre5[k]).grp] 47)).drew) hS (lab5 pre5[k]) hsl ((Below.refl _ wr).alloc (Nat.le_refl _) _).drew (by simp) (by exact cells_new wr (labCell (lab5 pre5[k])) _) HI.out
          have cp : wr.cell? ⟨wa.heap.size + 1, k, none⟩ = some (.string pre5[k]) := by
            rw [cell_of_row _ _ k _ _ _ hS.2.2]; simp [hpl]
          have hly : wa.heap.size + 1 < wr.heap.size := (Array.getElem?_eq_some_iff.1 hS.2.2).1
          have hps : pre5[k].size = 5 := by
            have : k = 0 ∨ k = 1 ∨ k = 2 ∨ k = 3 ∨ k = 4 := by omega
            rcases this with rfl | rfl | rfl | rfl | rfl <;> rfl
          have hps1 : pre5[k].size ≤ 5 := by omega
          have hps2 : 5 ≤ pre5[k].size := by omega
          have HBK : Hid (B.b5 k = bt (n / 2 ^ (3 + k)) 1) := by rw [← HB.out]; exact rfl
          have HS := Lib.hid hS
          have HS2 := Lib.hid hS2
          clear hS hS2 hps
          generalize sel pre5 lab5 B.b5 k = labs at HSU hsl c2 hrun d2 HS HS2
          dsimp only [lab5] at hrun
          generalize pre5[k] = p at cp hps1 hps2 hrun HSU HS2
          cases hb : bt (n / 2 ^ (3 + k)) 1
          · have hb' := bt_false hb
            have HE : Hid (sel pre5 lab5 B.b5 (k + 1) = labs) := by rw [HSU.out, HBK.out, hb]; exact rfl
            clear hb hrun
            go_wp2_with fail
            go_roundw
            case rel => exact ⟨k + 1, by omega, by go_num, by rw [HE.out]; exact HS.out⟩
            case measure => simp [intOf]; omega
          · have hb' := bt_true hb
            have hp3 : (3 : Int) ≤ (p.size : Int) := by omega
            have hp4 : ¬ 9223372036854775807 < 1 + min 3 p.size := by omega
            have HE : Hid (sel pre5 lab5 B.b5 (k + 1) = labs ++ [lab5 p]) := by rw [HSU.out, HBK.out, hb]; exact rfl
            clear hb
            go_wp2_with fail
            go_region_law (refine step_append_run rfl (.tmp 38) (.tmp 44) 43 rfl hrun (by simp [Act.eval]) (by simp [Act.eval]) ?_)
            all_goals
              go_wp2_with fail
              go_roundw
              case rel => exact ⟨k + 1, by omega, by go_num, by rw [HE.out]; exact HS2.out⟩
              case measure => simp [intOf]; omega
        · have hke : k = 5 := by omega
          obtain ⟨s1, ⟨sv, s2, s3⟩, s4⟩ := hS
          rw [hke] at s3
          have hM2 := hM.below s1
          have hww := s1.size
          have hA := HADD.out (lev5 B) sv _ wr hM2 (owns_base s3 (by omega)) rfl (by simp) (by omega)
          obtain ⟨sa, sc, rfl⟩ := OwnsLab.form s3
          have y0 : wr.cell? ⟨wa.heap.size, 0, none⟩ = _ := cell_of_row _ _ 0 _ _ _ s2
          have y1 : wr.cell? ⟨wa.heap.size, 1, none⟩ = _ := cell_of_row _ _ 1 _ _ _ s2
          have y2 : wr.cell? ⟨wa.heap.size, 2, none⟩ = _ := cell_of_row _ _ 2 _ _ _ s2
          have y3 : wr.cell? ⟨wa.heap.size, 3, none⟩ = _ := cell_of_row _ _ 3 _ _ _ s2
          have y4 : wr.cell? ⟨wa.heap.size, 4, none⟩ = _ := cell_of_row _ _ 4 _ _ _ s2
          simp at y0 y1 y2 y3 y4
          have HA := Lib.hid hA
          clear hA hM2 s2 s3 s4 hke
          go_wp2_with (go_at_call 23; refine HA.out.mono ?_; rintro e w2 ⟨rfl, hm2, hz2⟩; have HM2 := Lib.hid hm2; clear hm2)
          go_meet
          exact ⟨by unfold mk1; rw [HFE.out]; exact HM2.out, by omega⟩
  case rest =>
    clear hM hx
    obtain ⟨hM, hx⟩ := hcut
    clear wa
    obtain ⟨wa, hwa⟩ : ∃ wa : World, wa = wc := ⟨_, rfl⟩
    rw [← hwa] at hM hx ⊢
    clear hwa
    clear wc
    go_upto_if 53 with fail
    go_cut [12] (fun _ wx => MR w (.slice la least.length lc) (.slice ca cents.length cc) (mk2 B least cents) wx ∧ w.heap.size + 3 ≤ wx.heap.size)
    case first =>
      cases hf : bt n 2
      · have HM : Hid (MR w (.slice la least.length lc) (.slice ca cents.length cc) (mk2 B least cents) wa) := by
          have e : B.f3 = false := by rw [← HB.out]; exact hf
          unfold mk2; rw [e]; exact hM
        have hf' := bt_false hf
        have hfd : decide (0 < bits BinOp.and IntKind.u32 n 2) = false := hf
        rw [hfd]
        clear hf hfd
        go_wp2_with fail
        go_meet
        exact ⟨HM.out, hx⟩
      · have hfe : B.f3 = true := by rw [← HB.out]; exact hf
        have HFE := Lib.hid hfe
        have hf' := bt_true hf
        have hfd : decide (0 < bits BinOp.and IntKind.u32 n 2) = true := hf
        rw [hfd]
        clear hf hfe hfd
        go_wp2_with fail
        go_loopw [57] (fun i wr => ∃ k : Nat, k ≤ 6 ∧ i = .int .i64 k ∧ SR wa ⟨#[116, 104, 114, 101, 101]⟩ 3 (pre3.map Value.string).toArray (sel pre3 lab3 B.b3 k) wr) (fun i _ => 6 - (intOf i).toNat)
        case atStart => exact ⟨0, Nat.zero_le _, rfl, SR_start wa _ _ _⟩
        case round =>
          obtain ⟨k, hk, rfl, hS⟩ := hrel
          by_cases hlt : k < 6
          · have hpl : k < pre3.length := hlt
            have HSU := Lib.hid (sel_succ pre3 lab3 B.b3 k hpl)
            have hsl : (sel pre3 lab3 B.b3 k).length ≤ 100 := by have := sel_len pre3 lab3 B.b3 k; omega
            obtain ⟨sa, sc, gv, cv, w1, c2, hlw, hrun, d2, dz, hS2⟩ := SR_step (W := (wr.alloc (.cells #[.string (lab3 pre3[k]).pre, .string (lab3 pre3[k]).grp] 47)).drew) hS (lab3 pre3[k]) hsl ((Below.refl _ wr).alloc (Nat.le_refl _) _).drew (by simp) (by exact cells_new wr (labCell (lab3 pre3[k])) _) HI.out
            have cp : wr.cell? ⟨wa.heap.size + 1, k, none⟩ = some (.string pre3[k]) := by
              rw [cell_of_row _ _ k _ _ _ hS.2.2]; simp [hpl]
            have hly : wa.heap.size + 1 < wr.heap.size := (Array.getElem?_eq_some_iff.1 hS.2.2).1
            have hps : pre3[k].size = 3 := by
              have : k = 0 ∨ k = 1 ∨ k = 2 ∨ k = 3 ∨ k = 4 ∨ k = 5 := by omega
              rcases this with rfl | rfl | rfl | rfl | rfl | rfl <;> rfl
            have hps1 : pre3[k].size ≤ 3 := by omega
            have hps2 : 3 ≤ pre3[k].size := by omega
            have HBK : Hid (B.b3 k = bt (n / 2 ^ (8 + k)) 1) := by rw [← HB.out]; exact rfl
            have HS := Lib.hid hS
            have HS2 := Lib.hid hS2
            clear hS hS2 hps
            generalize sel pre3 lab3 B.b3 k = labs at HSU hsl c2 hrun d2 HS HS2
            dsimp only [lab3] at hrun
            generalize pre3[k] = p at cp hps1 hps2 hrun HSU HS2
            cases hb : bt (n / 2 ^ (8 + k)) 1
            · have hb' := bt_false hb
              have HE : Hid (sel pre3 lab3 B.b3 (k + 1) = labs) := by rw [HSU.out, HBK.out, hb]; exact rfl
              clear hb hrun
              go_wp2_with fail
              go_roundw
              case rel => exact ⟨k + 1, by omega, by go_num, by rw [HE.out]; exact HS.out⟩
              case measure => simp [intOf]; omega
            · have hb' := bt_true hb
              have hp3 : (1 : Int) ≤ (p.size : Int) := by omega
              have hp4 : ¬ 9223372036854775807 < 1 + min 1 p.size := by omega
              have HE : Hid (sel pre3 lab3 B.b3 (k + 1) = labs ++ [lab3 p]) := by rw [HSU.out, HBK.out, hb]; exact rfl
              clear hb
              go_wp2_with fail
              go_region_law (refine step_append_run rfl (.tmp 69) (.tmp 75) 43 rfl hrun (by simp [Act.eval]) (by simp [Act.eval]) ?_)
              all_goals
                go_wp2_with fail
                go_roundw
                case rel => exact ⟨k + 1, by omega, by go_num, by rw [HE.out]; exact HS2.out⟩
                case measure => simp [intOf]; omega
          · have hke : k = 6 := by omega
            obtain ⟨s1, ⟨sv, s2, s3⟩, s4⟩ := hS
            rw [hke] at s3
            have hM2 := hM.below s1
            have hww := s1.size
            have hA := HADD.out (lev3 B) sv _ wr hM2 (owns_base s3 (by omega)) rfl (by have := HLN.out; omega) (by omega)
            obtain ⟨sa, sc, rfl⟩ := OwnsLab.form s3
            have y0 : wr.cell? ⟨wa.heap.size, 0, none⟩ = _ := cell_of_row _ _ 0 _ _ _ s2
            have y1 : wr.cell? ⟨wa.heap.size, 1, none⟩ = _ := cell_of_row _ _ 1 _ _ _ s2
            have y2 : wr.cell? ⟨wa.heap.size, 2, none⟩ = _ := cell_of_row _ _ 2 _ _ _ s2
            have y3 : wr.cell? ⟨wa.heap.size, 3, none⟩ = _ := cell_of_row _ _ 3 _ _ _ s2
            have y4 : wr.cell? ⟨wa.heap.size, 4, none⟩ = _ := cell_of_row _ _ 4 _ _ _ s2
            simp at y0 y1 y2 y3 y4
            have HA := Lib.hid hA
            clear hA hM2 s2 s3 s4 hke
            go_wp2_with (go_at_call 23; refine HA.out.mono ?_; rintro e w2 ⟨rfl, hm2, hz2⟩; have HM2 := Lib.hid hm2; clear hm2)
            go_meet
            exact ⟨by unfold mk2; rw [HFE.out]; exact HM2.out, by omega⟩
    case rest =>
      clear hM hx
      obtain ⟨hM, hx⟩ := hcut
      clear wa
      obtain ⟨wa, hwa⟩ : ∃ wa : World, wa = wc := ⟨_, rfl⟩
      rw [← hwa] at hM hx ⊢
      clear hwa
      clear wc
      go_upto_if 84 with fail
      go_cut [15] (fun _ wx => MR w (.slice la least.length lc) (.slice ca cents.length cc) (mk3 B least cents) wx ∧ w.heap.size + 3 ≤ wx.heap.size)
      case first =>
        cases hf : bt n 4
        · have HM : Hid (MR w (.slice la least.length lc) (.slice ca cents.length cc) (mk3 B least cents) wa) := by
            have e : B.f1 = false := by rw [← HB.out]; exact hf
            unfold mk3; rw [e]; exact hM
          have hf' := bt_false hf
          have hfd : decide (0 < bits BinOp.and IntKind.u32 n 4) = false := hf
          rw [hfd]
          clear hf hfd
          go_wp2_with fail
          go_meet
          exact ⟨HM.out, hx⟩
        · have hfe : B.f1 = true := by rw [← HB.out]; exact hf
          have HFE := Lib.hid hfe
          have hf' := bt_true hf
          have hfd : decide (0 < bits BinOp.and IntKind.u32 n 4) = true := hf
          rw [hfd]
          clear hf hfe hfd
          go_wp2_with fail
          go_loopw [88] (fun i wr => ∃ k : Nat, k ≤ 3 ∧ i = .int .i64 k ∧ SR wa ⟨#[111, 110, 101]⟩ 1 (pre1.map Value.string).toArray (sel pre1 lab1 B.b1 k) wr) (fun i _ => 3 - (intOf i).toNat)
          case atStart => exact ⟨0, Nat.zero_le _, rfl, SR_start wa _ _ _⟩
          case round =>
            obtain ⟨k, hk, rfl, hS⟩ := hrel
            by_cases hlt : k < 3
            · have hpl : k < pre1.length := hlt
              have HSU := Lib.hid (sel_succ pre1 lab1 B.b1 k hpl)
              have hsl : (sel pre1 lab1 B.b1 k).length ≤ 100 := by have := sel_len pre1 lab1 B.b1 k; omega
              obtain ⟨sa, sc, gv, cv, w1, c2, hlw, hrun, d2, dz, hS2⟩ := SR_step (W := (wr.alloc (.cells #[.string (lab1 pre1[k]).pre, .string (lab1 pre1[k]).grp] 47))) hS (lab1 pre1[k]) hsl ((Below.refl _ wr).alloc (Nat.le_refl _) _) (by simp) (by exact cells_new wr (labCell (lab1 pre1[k])) _) HI.out
              have cp : wr.cell? ⟨wa.heap.size + 1, k, none⟩ = some (.string pre1[k]) := by
                rw [cell_of_row _ _ k _ _ _ hS.2.2]; simp [hpl]
              have hly : wa.heap.size + 1 < wr.heap.size := (Array.getElem?_eq_some_iff.1 hS.2.2).1
              have hps : pre1[k].size = 1 := by
                have : k = 0 ∨ k = 1 ∨ k = 2 := by omega
                rcases this with rfl | rfl | rfl <;> rfl
              have hps1 : pre1[k].size ≤ 1 := by omega
              have hps2 : 1 ≤ pre1[k].size := by omega
              have HBK : Hid (B.b1 k = bt (n / 2 ^ (14 + k)) 1) := by rw [← HB.out]; exact rfl
              have HS := Lib.hid hS
              have HS2 := Lib.hid hS2
              clear hS hS2 hps
              generalize sel pre1 lab1 B.b1 k = labs at HSU hsl c2 hrun d2 HS HS2
              dsimp only [lab1] at hrun
              generalize pre1[k] = p at cp hps1 hps2 hrun HSU HS2
              cases hb : bt (n / 2 ^ (14 + k)) 1
              · have hb' := bt_false hb
                have HE : Hid (sel pre1 lab1 B.b1 (k + 1) = labs) := by rw [HSU.out, HBK.out, hb]; exact rfl
                clear hb hrun
                go_wp2_with fail
                go_roundw
                case rel => exact ⟨k + 1, by omega, by go_num, by rw [HE.out]; exact HS.out⟩
                case measure => simp [intOf]; omega
              · have hb' := bt_true hb
                have HE : Hid (sel pre1 lab1 B.b1 (k + 1) = labs ++ [lab1 p]) := by rw [HSU.out, HBK.out, hb]; exact rfl
                clear hb
                go_wp2_with (at_builtin; refine wpList_append_run rfl (.tmp 100) (.tmp 103) 43 rfl hrun rfl rfl ?_)
                go_roundw
                case rel => exact ⟨k + 1, by omega, by go_num, by rw [HE.out]; exact HS2.out⟩
                case measure => simp [intOf]; omega
            · have hke : k = 3 := by omega
              obtain ⟨s1, ⟨sv, s2, s3⟩, s4⟩ := hS
              rw [hke] at s3
              have hM2 := hM.below s1
              have hww := s1.size
              have hA := HADD.out (lev1 B) sv _ wr hM2 (owns_base s3 (by omega)) rfl (by have := HLN.out; omega) (by omega)
              obtain ⟨sa, sc, rfl⟩ := OwnsLab.form s3
              have y0 : wr.cell? ⟨wa.heap.size, 0, none⟩ = _ := cell_of_row _ _ 0 _ _ _ s2
              have y1 : wr.cell? ⟨wa.heap.size, 1, none⟩ = _ := cell_of_row _ _ 1 _ _ _ s2
              have y2 : wr.cell? ⟨wa.heap.size, 2, none⟩ = _ := cell_of_row _ _ 2 _ _ _ s2
              have y3 : wr.cell? ⟨wa.heap.size, 3, none⟩ = _ := cell_of_row _ _ 3 _ _ _ s2
              have y4 : wr.cell? ⟨wa.heap.size, 4, none⟩ = _ := cell_of_row _ _ 4 _ _ _ s2
              simp at y0 y1 y2 y3 y4
              have HA := Lib.hid hA
              clear hA hM2 s2 s3 s4 hke
              go_wp2_with (go_at_call 23; refine HA.out.mono ?_; rintro e w2 ⟨rfl, hm2, hz2⟩; have HM2 := Lib.hid hm2; clear hm2)
              go_meet
              exact ⟨by unfold mk3; rw [HFE.out]; exact HM2.out, by omega⟩
      case rest =>
        clear hM hx
        obtain ⟨hM, hx⟩ := hcut
        clear wa
        obtain ⟨wa, hwa⟩ : ∃ wa : World, wa = wc := ⟨_, rfl⟩
        rw [← hwa] at hM hx ⊢
        clear hwa
        clear wc
        obtain ⟨h1, h2, h3, v, h4, L, hL, hLr, hLo⟩ := hM
        have hL3 := HLN.out.2.2
        have hLl : L.length = (mk3 B least cents).length := by rw [← hL, List.length_map]
        rw [hLl] at hLo
        obtain ⟨a, cap, rfl⟩ : ∃ a cap, v = .slice a (mk3 B least cents).length cap := by
          rcases Joins.ownsRow_forms hLo with ⟨rfl, hp⟩ | ⟨g, cap, rfl⟩
          · exact ⟨none, 0, by rw [hp]⟩
          · exact ⟨_, cap, rfl⟩
        have x1 := cell_of_one h3
        have x2 := cell_of_one h4
        have hx2 : w.heap.size + 2 < wa.heap.size := by omega
        have hx1 : w.heap.size + 1 < wa.heap.size := by omega
        have H1 := Lib.hid h1
        have HL := Lib.hid hL
        have HLL := Lib.hid hLl
        have HLR := Lib.hid hLr
        have FIN : Hid (∀ (c : Int) (v' : Value) (w2 : World) (o1 o2 : Obj), c = ((cents.getD (mk3 B least cents).length 0).toNat : Int) → w2.ownsRow (w.heap.size + 3) 45 5 v' ((mk3 B least cents).length + 1) (L.flatMap lCell ++ lCell (⟨⟨#[97, 108, 108]⟩, 0, [], 0, c⟩, .slice none 0 0)) → ((wa.alloc o1).alloc o2).grownBy w2 (Value.slice a (mk3 B least cents).length cap).ownBlock → Below w.heap.size w w2 ∧ OwnsLv w2 w.heap.size v' (madeR B least cents)) := by
          intro c v' w2 o1 o2 hc ho hg
          have hLo2 := (hLo.alloc o1).alloc o2
          refine ⟨((h1.alloc h1.size o1).alloc (by have := h1.size; simp; omega) o2).grown hg (by have := h1.size; simp; omega) (fun r e => by have := (hLo.lt r e).1; omega), L ++ [(⟨⟨#[97, 108, 108]⟩, 0, [], 0, c⟩, .slice none 0 0)], ?_, ?_, ?_⟩
          · rw [List.map_append, hL]; unfold madeR; rw [hc]; rfl
          · intro p hp
            have nA := own_not hLo2 (T := 47) (by decide)
            rcases List.mem_append.1 hp with hp | hp
            · exact owns_base (kept_typed (((hLr p hp).alloc o1).alloc o2) hg (fun g e => nA g e)) (by omega)
            · rw [List.mem_singleton.1 hp]; exact OwnsLab.nil _ _
          · rw [List.flatMap_append, List.length_append, hLl]
            have := owns_base ho (b' := w.heap.size) (by omega)
            simpa using this
        clear h1 h2 h3 h4 hL hLr hLl
        by_cases k2 : (mk3 B least cents).length < cents.length
        · obtain ⟨g2, o2, rfl, gg2, c2⟩ := byte_of HRC.out rfl H1.out k2
          have e2 := Lib.hid (getD_lt k2)
          have bb3 : (cents[(mk3 B least cents).length].toNat : Int) ≤ 255 := by have := cents[(mk3 B least cents).length].toNat_lt; omega
          have bb4 : 0 ≤ (cents[(mk3 B least cents).length].toNat : Int) := by omega
          go_wp2_with (at_builtin; refine wpList_append_own _ rfl _ _ 25 rfl (w.heap.size + 3) 45 i1 (.agg #[.string ⟨#[]⟩, .int .i64 0, .slice none 0 0, .int .i64 0, .int .i64 0]) 5 64 Try.underlying25 HI1.out.1 HI1.out.2.1 HI1.out.2.2.1 HI1.out.2.2.2 rfl (by decide) _ _ _ rfl ((hLo.alloc _).alloc _) ⟨wa.heap.size + 1, 0, none⟩ 1 1 (lCell (⟨⟨#[97, 108, 108]⟩, 0, [], 0, (cents[(mk3 B least cents).length].toNat : Int)⟩, .slice none 0 0)) rfl rfl (cells_newN _ _ (by simp) _ _) (by simp [Value.oneCell', lCell]) (by unfold maxLen; omega) (by omega) (by simp; omega) ?_; intro v' w2 hown' hgrow _)
          go_ret
          obtain ⟨f1, f2⟩ := FIN.out _ _ _ _ _ (by rw [e2.out]) hown' hgrow
          exact ⟨_, rfl, f1, f2⟩
        · have e2 := Lib.hid (getD_ge k2)
          go_wp2_with (at_builtin; refine wpList_append_own _ rfl _ _ 25 rfl (w.heap.size + 3) 45 i1 (.agg #[.string ⟨#[]⟩, .int .i64 0, .slice none 0 0, .int .i64 0, .int .i64 0]) 5 64 Try.underlying25 HI1.out.1 HI1.out.2.1 HI1.out.2.2.1 HI1.out.2.2.2 rfl (by decide) _ _ _ rfl ((hLo.alloc _).alloc _) ⟨wa.heap.size + 1, 0, none⟩ 1 1 (lCell (⟨⟨#[97, 108, 108]⟩, 0, [], 0, 0⟩, .slice none 0 0)) rfl rfl (cells_newN _ _ (by simp) _ _) (by simp [Value.oneCell', lCell]) (by unfold maxLen; omega) (by omega) (by simp; omega) ?_; intro v' w2 hown' hgrow _)
          go_ret
          obtain ⟨f1, f2⟩ := FIN.out _ _ _ _ _ (by rw [e2.out]; rfl) hown' hgrow
          exact ⟨_, rfl, f1, f2⟩
end Go.Proofs.Ytdahgfopighhlaa
