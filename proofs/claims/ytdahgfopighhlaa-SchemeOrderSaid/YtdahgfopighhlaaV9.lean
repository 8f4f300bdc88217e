/-
  The walk of letterbaglaw23.SchemeOrder.
-/
import Derived.Test.YtdahgfopighhlaaV8
import Derived.Deep.RegionLaw
namespace Go.Proofs.Ytdahgfopighhlaa
open Go.RowKit
set_option linter.unusedVariables false
set_option maxRecDepth 100000
theorem codes_nil (v : Value) (w W : World) (hr : RdBytes w v []) (hw : Below w.heap.size w W) :
    Calls Try.prog 12 #[v] W fun e w' => e = .returned (.slice none 0 0) ∧ W = w' := by
  obtain ⟨a, cap, rfl, hc⟩ := hr
  clear hc
  go_enter Try.func12, Try.ntmps12
  go_wp2_with fail
  go_loop [3, 4] (fun v i => i = .int .i64 0 ∧ v = .slice none 0 0) (fun _ _ => 0)
  case atStart => exact ⟨rfl, rfl⟩
  case round =>
    obtain ⟨rfl, rfl⟩ := hrel
    go_wp2_with fail
    go_ret
    exact ⟨rfl, rfl⟩
theorem app_nil (W : World) (g : Nat) : (Builtin.append_ #[27, 27] 27 #[.slice (some ⟨g, 0, none⟩) 0 0, .slice none 0 0]).run Try.prog W = .ok (.slice (some ⟨g, 0, none⟩) 0 0) W := by kernel_rfl
theorem gTo_nil (ls : List Lev) : (gTo ls [] ls.length).1 = [] := by
  rw [gTo_closed ls [] ls.length (Nat.le_refl _), gAll_prs]
  have : prs ls [] ls.length = [] := by
    unfold prs
    rw [List.flatMap_eq_nil_iff]
    intro m _
    rfl
  rw [this]
  rfl
set_option maxHeartbeats 16000000 in
theorem schemeOrder_nil (n by_ : Int) (vb : Value) (w : World) (hn0 : 0 ≤ n) (hn1 : n < 4294967296) (hy0 : 0 ≤ by_) (hy1 : by_ < 65536) (hr : RdBytes w vb []) :
    Calls Try.prog 4 #[.int .u32 n, vb, .int .u16 by_] w fun e w' => e = .returned (.bool true) ∧ Below w.heap.size w w' := by
  have HRT := Lib.hid (made_right (bitsOf n) [] [])
  have HPR := Lib.hid (made_pre (bitsOf n) [] [])
  have HMD := Lib.hid (fun W (h : Below w.heap.size w W) => bytes_made w W hn0 hn1 h)
  generalize madeR (bitsOf n) [] [] = ls at HRT HPR HMD
  have HCD := Lib.hid (fun W (h : Below w.heap.size w W) => codes_nil vb w W hr h)
  have HGA := Lib.hid (fun (v vc : Value) W hr hrc hw => groups_ok ls v vc [] w W hr HRT.out HPR.out hrc ⟨by decide, by simp⟩ hw)
  rw [gTo_nil] at HGA
  have HPK := Lib.hid (fun W => pick_zero by_ W)
  have hap := app_nil
  clear hr HRT HPR
  go_enter Try.func4, Try.ntmps4
  go_wp2_with fail
  refine (awake_any _).mono ?_
  rintro e W1 ⟨rfl, hB1⟩
  go_wp2_with fail
  refine (HMD.out _ hB1).mono ?_
  rintro e W2 ⟨v, rfl, hB2, _, hown⟩
  have HX := Lib.hid hown.reads
  clear hB1 hown HMD
  go_wp2_with fail
  refine (HCD.out _ hB2).mono ?_
  rintro e W3 ⟨rfl, rfl⟩
  clear HCD
  go_wp2_with fail
  refine (HPK.out _).mono ?_
  rintro e W3 ⟨rfl, rfl⟩
  clear HPK
  go_wp2_with fail
  go_region_law (first | (refine step_append_run rfl (.tmp 32) (.tmp 35) 27 rfl (app_nil _ W2.heap.size) (by simp [Act.eval]) (by simp [Act.eval]) ?_) | (refine step_append_run rfl (.tmp 36) (.tmp 39) 27 rfl (app_nil _ W2.heap.size) (by simp [Act.eval]) (by simp [Act.eval]) ?_))
  all_goals
    obtain ⟨W4, hW4⟩ : ∃ W4, (W2.alloc (.cells #[] 9)).drew = W4 := ⟨_, rfl⟩
    have hb4 : Below W2.heap.size W2 W4 := by rw [← hW4]; exact ((Below.refl _ W2).alloc (Nat.le_refl _) _).drew
    rw [hW4]
    clear hW4
    have HX4 := Lib.hid (HX.out.below hb4)
    have HB4 := Lib.hid (below_c hB2 hB2.size hb4)
    clear hb4 HX
    go_wp2_with fail
    refine (HGA.out _ _ W4 HX4.out ⟨none, 0, rfl, fun h => absurd h (by simp)⟩ HB4.out).mono ?_
    rintro e W5 ⟨a5, c5, rfl, hB5, hb5, _⟩
    have HX5 := Lib.hid (HX4.out.below hb5)
    clear hb5 HX4 HB4
    go_wp2_with fail
    refine (HGA.out _ _ W5 HX5.out ⟨_, 0, rfl, fun h => absurd h (by simp)⟩ hB5).mono ?_
    rintro e W6 ⟨a6, c6, rfl, hB6, hb6, _⟩
    clear hb6 HX5 HGA
    go_wp2_with fail
    go_loop [66] (fun i => i = .int .i64 0) (fun _ => 0)
    case atStart => rfl
    case round =>
      obtain rfl := hrel
      go_wp2_with fail
      go_ret
      exact ⟨rfl, hB6⟩
set_option maxHeartbeats 16000000 in
theorem schemeOrder_some (n by_ : Int) (bs : List UInt8) (vb : Value) (w : World) (hn0 : 0 ≤ n) (hn1 : n < 4294967296) (hy0 : 0 ≤ by_) (hy1 : by_ < 65536) (hr : RdBytes w vb bs) (hbl : bs.length ≤ maxLen) (hbs : 0 < bs.length) :
    Calls Try.prog 4 #[.int .u32 n, vb, .int .u16 by_] w fun e w' => e = .returned (.bool true) ∧ Below w.heap.size w w' := by
  have HRT := Lib.hid (made_right (bitsOf n) [] [])
  have HPR := Lib.hid (made_pre (bitsOf n) [] [])
  have HMD := Lib.hid (fun W (h : Below w.heap.size w W) => bytes_made w W hn0 hn1 h)
  generalize madeR (bitsOf n) [] [] = ls at HRT HPR HMD
  have hcl : 0 < (codesOf bs).length := by unfold codesOf; simp; omega
  have HCD := Lib.hid (fun W (h : Below w.heap.size w W) => codes_any bs vb W (hr.below h) hbl)
  have HCF := Lib.hid (codesOf_facts bs)
  generalize codesOf bs = cs at HCD HCF hcl
  clear hr hbl hbs
  obtain ⟨hl1, hl6⟩ := right_len HRT.out
  have hc2 := HCF.out.1
  have hpc : ∀ l ∈ ls, ∀ c ∈ cs, l.pre ≤ c.size := fun l hl c hc => by rw [(HCF.out.2 c hc).2]; exact HPR.out l hl
  obtain ⟨k, hk, hke⟩ : ∃ k : Nat, k < cs.length ∧ by_ % (cs.length : Int) = (k : Int) := ⟨(by_ % (cs.length : Int)).toNat, by have h1 := Int.emod_nonneg by_ (show (cs.length : Int) ≠ 0 by omega); have h2 := Int.emod_lt_of_pos by_ (show (0 : Int) < cs.length by omega); omega, by have h1 := Int.emod_nonneg by_ (show (cs.length : Int) ≠ 0 by omega); omega⟩
  have HPK := Lib.hid (fun W => pick_any by_ (cs.length : Int) W (by omega) (by omega) (by omega) (by omega))
  rw [hke] at HPK
  clear hke
  obtain ⟨ga, gb, hga, hgb, hgl, hor⟩ := order_sum (k := k) HRT.out (fun c hc => (HCF.out.2 c hc).1) hpc (Or.inl hk)
  have HOR := Lib.hid hor
  have hcf2 : (turnL k cs).length ≤ 2000 ∧ ∀ c ∈ turnL k cs, codeB c = true ∧ c.size = 5 := ⟨by rw [turnL_len]; exact hc2, fun c hc => HCF.out.2 c (mem_turnL.1 hc)⟩
  have HGA := Lib.hid (fun (v vc : Value) W hr hrc hw => groups_ok ls v vc cs w W hr HRT.out HPR.out hrc HCF.out hw)
  have HGB := Lib.hid (fun (v vc : Value) W hr hrc hw => groups_ok ls v vc (turnL k cs) w W hr HRT.out HPR.out hrc hcf2 hw)
  have hbd := gTo_bound ls cs hl6 HCF.out.1
  rw [hga] at HGA hbd
  rw [hgb, ← hgl] at HGB
  have hgl1 : ga.length ≤ gb.length := by omega
  clear hpc HRT HPR HCF hga hgb hor hcf2 hgl
  go_enter Try.func4, Try.ntmps4
  go_wp2_with fail
  refine (awake_any _).mono ?_
  rintro e W1 ⟨rfl, hB1⟩
  go_wp2_with fail
  refine (HMD.out _ hB1).mono ?_
  rintro e W2 ⟨v, rfl, hB2, _, hown⟩
  have HX := Lib.hid hown.reads
  clear hB1 hown HMD
  go_wp2_with fail
  refine (HCD.out _ hB2).mono ?_
  rintro e W3 ⟨vc, rfl, hb3, hoc⟩
  obtain ⟨g, cap, rfl, hcap1, hcap2, hg3, hcc⟩ := codes_lies hoc hcl
  have HX3 := Lib.hid (HX.out.below hb3)
  have HB3 := Lib.hid (below_c hB2 hB2.size hb3)
  have HC3 := Lib.hid (ReadsT.of_row hoc)
  have HCC := Lib.hid hcc
  unfold maxLen at hcap2
  clear hB2 HX HCD hb3 hoc hcc
  go_wp2_with fail
  refine (HPK.out _).mono ?_
  rintro e W3' ⟨rfl, rfl⟩
  clear HPK
  go_wp2_with fail
  have hb30 : Below W3.heap.size W3 ((W3.alloc (.cells #[] 9)).drew) := ((Below.refl _ W3).alloc (Nat.le_refl _) _).drew
  obtain ⟨v1, w1, a2, c2, W4, hr1, hr2, hb4, hrt⟩ := turned_facts (cap := cap) hb30 (alloc_new W3 _) hg3 hk HCC.out hc2
  have HX4 := Lib.hid (HX3.out.below hb4)
  have HB4 := Lib.hid (below_c HB3.out HB3.out.size hb4)
  have HC4 := Lib.hid (HC3.out.below hb4)
  have HT4 := Lib.hid hrt
  clear hb30 hb4 hrt HX3 HB3 HC3 HCC
  have hk1 : (0 : Int) ≤ (k : Int) := by omega
  have hk2 : (k : Int) ≤ (cs.length : Int) := by omega
  have hk3 : (k : Int) ≤ (cap : Int) := by omega
  have hk4 : (cs.length : Int) ≤ (cap : Int) := by omega
  have hk5 : ¬ cap = k := by omega
  have hk6 : ¬ cap - k = 0 := by omega
  go_region_law (first | (refine step_append_run rfl (.tmp 32) (.tmp 35) 27 rfl hr1 (by simp [Act.eval]) (by simp [Act.eval]) ?_) | (refine step_append_run rfl (.tmp 36) (.tmp 39) 27 rfl hr2 (by simp [Act.eval]) (by simp [Act.eval]) ?_))
  all_goals
    clear hr1 hr2 hk1 hk2 hk3 hk4 hk5 hk6
    go_wp2_with fail
    refine (HGA.out _ _ W4 HX4.out HC4.out HB4.out).mono ?_
    rintro e W5 ⟨a5, c5, rfl, hB5, hb5, hra⟩
    have HX5 := Lib.hid (HX4.out.below hb5)
    have HT5 := Lib.hid (HT4.out.below hb5)
    have HRA := Lib.hid hra
    clear hb5 HX4 HB4 HC4 HT4 hra HGA
    go_wp2_with fail
    refine (HGB.out _ _ W5 HX5.out HT5.out hB5).mono ?_
    rintro e W6 ⟨a6, c6, rfl, hB6, hb6, hrb⟩
    have HA := Lib.hid (RdGrps.lies (HRA.out.below hb6))
    have HBB := Lib.hid (RdGrps.lies hrb)
    clear hb6 hB5 HX5 HT5 HRA hrb HGB
    have hne : ((ga.length : Int) != (ga.length : Int)) = false := by simp
    go_wp2_with fail
    clear hne
    go_loopw [66] (fun i wr => ∃ j : Nat, j ≤ ga.length ∧ i = .int .i64 j ∧ Below w.heap.size w wr ∧ Below W6.heap.size W6 wr) (fun i _ => ga.length - (intOf i).toNat)
    case atStart => exact ⟨0, Nat.zero_le _, rfl, hB6, Below.refl _ _⟩
    case round =>
      obtain ⟨j, hj, rfl, hB, hb⟩ := hrel
      by_cases hlt : j < ga.length
      · obtain ⟨gx, ox, rfl, hgx, hcx⟩ := HA.out (by omega)
        obtain ⟨gy, oy, rfl, hgy, hcy⟩ := HBB.out (by omega)
        obtain ⟨sx, rx, ax⟩ := hcx j hlt
        obtain ⟨sy, ry, ay⟩ := hcy j (by omega)
        obtain ⟨o1, o2, o3, o4, o5, oA, oB⟩ := HOR.out j hlt (by omega)
        obtain ⟨x0, x1, x2, x3⟩ := ax.below hb hgx
        obtain ⟨y0, y1, y2, y3⟩ := ay.below hb hgy
        rw [← o1] at y1
        rw [← o2] at y0
        rw [← o3] at y2
        clear ax ay hcx hcy HA HBB HOR o1 o2 o3
        obtain ⟨asx, csx, rfl, hcx⟩ := rx
        obtain ⟨asy, csy, rfl, hcy⟩ := ry
        rw [← o4] at y3
        have HCX := Lib.hid hcx
        have HCY := Lib.hid hcy
        have OA := Lib.hid oA
        have OB := Lib.hid oB
        have O4 := Lib.hid o4
        clear hcx hcy oA oB o4
        generalize ga[j] = x at x0 x1 x2 x3 y0 y1 y2 y3 o5 O4 OA OB HCX
        generalize gb[j]'_ = y at O4 OB HCY
        have hbs := ba_eq x.name x.name
        rw [decide_eq_true rfl] at hbs
        have hgxr : gx < wr.heap.size := by have := hb.size; omega
        have hgyr : gy < wr.heap.size := by have := hb.size; omega
        have n1 : (x.lvl != x.lvl) = false := by simp
        have n2 : (x.up != x.up) = false := by simp
        have n3 : ((x.items.length : Int) != (x.items.length : Int)) = false := by simp
        go_upto_region 13 with fail
        go_cut [120] (fun b wx => b = .bool false ∧ Below wr.heap.size wr wx)
        case first =>
          go_quiet (fail)
          go_wp2_with fail
          go_meet
          exact ⟨rfl, below_drewN (Below.refl _ wr) _⟩
        case rest =>
          obtain ⟨rfl, hbc⟩ := hcut
          have c3 : wc.cell? ⟨gx, ox + j * 4 + 3, none⟩ = some (.slice asx x.items.length csx) := (hbc.cell (p := ⟨gx, ox + j * 4 + 3, none⟩) hgxr).trans x3
          have hgxc : gx < wc.heap.size := by have := hbc.size; omega
          have hgyc : gy < wc.heap.size := by have := hbc.size; omega
          have HD3 : Hid (∀ W, Below wc.heap.size wc W → W.cell? ⟨gy, oy + j * 4 + 3, none⟩ = some (.slice asy x.items.length csy)) := fun W hW => (hW.cell (p := ⟨gy, oy + j * 4 + 3, none⟩) hgyc).trans ((hbc.cell (p := ⟨gy, oy + j * 4 + 3, none⟩) hgyr).trans y3)
          have HBc := Lib.hid (below_c hB hB.size hbc)
          have Hbc := Lib.hid (below_c hb hb.size hbc)
          have hmm := @run_makeMap Try.prog
          have hxl : x.items.length ≤ 2000 := by omega
          clear x0 x1 x2 x3 y0 y1 y2 y3 n1 n2 n3 hbs hB hb hbc hgxr hgyr
          go_wp2_with fail
          clear hmm
          have hst : ∃ f, OwnsI (wc.alloc (.map #[] 0)) wc.heap.size 0 f ∧ ∀ q (hq : q < 0) (hq' : q < x.items.length), f x.items[q] = true := ⟨_, OwnsI.made wc, fun q hq => by omega⟩
          have Hst := Lib.hid hst
          clear hst c3
          go_loopw [128] (fun i wi => ∃ p : Nat, p ≤ x.items.length ∧ i = .int .i64 p ∧ Below wc.heap.size wc wi ∧ ∃ f, OwnsI wi wc.heap.size p f ∧ ∀ q (hq : q < p) (hq' : q < x.items.length), f x.items[q] = true) (fun i _ => x.items.length - (intOf i).toNat)
          case atStart => exact ⟨0, Nat.zero_le _, rfl, (Below.refl _ wc).alloc (Nat.le_refl _) _, Hst.out⟩
          case round =>
            clear Hst
            obtain ⟨p, hp, rfl, hbi, f, hoi, hfi⟩ := hrel
            have HFI := Lib.hid hfi
            clear hfi
            by_cases hpl : p < x.items.length
            · obtain ⟨q, hq, hxq⟩ := OA.out p hpl
              obtain ⟨gi, oi, rfl, hgi, hci⟩ := HCX.out (by omega)
              have hgic : gi < wc.heap.size := by have := Hbc.out.size; omega
              have i0 : wr.cell? ⟨gi, oi + p, none⟩ = some (.int .i64 q) := by rw [← hxq]; exact (hbi.cell (p := ⟨gi, oi + p, none⟩) hgic).trans ((Hbc.out.cell (p := ⟨gi, oi + p, none⟩) hgi).trans (hci p hpl))
              have HXQ := Lib.hid hxq
              clear hci hxq OB HCY HD3 HCX
              go_wp2_with (at_mapUpdate; refine wpList_update_I _ rfl _ _ _ 41 rfl Try.underlying41 wc.heap.size p f rfl hoi (by unfold maxLen; omega) q (WalkArith.wf_i64 (by omega)) rfl rfl ?_; intro w3 ho3 hg3)
              go_roundw
              case rel => exact ⟨p + 1, by omega, by go_num, below_row hbi hg3 hbi.size (Nat.le_refl _), _, ho3, fun q' hq' hq'' => by
                by_cases e : q' = p
                · subst e; rw [HXQ.out]; simp
                · rw [HFI.out q' (by omega) hq'']; simp⟩
              case measure => simp [intOf]; omega
            · have HFA : Hid (∀ z ∈ x.items, f z = true) := fun z hz => by
                obtain ⟨q, hq, rfl⟩ := List.mem_iff_getElem.1 hz
                exact HFI.out q (by omega) hq
              have d3 := HD3.out wr hbi
              have hwc : wc.heap.size < wr.heap.size := hoi.lt
              clear HFI HD3 HCX OA
              go_wp2_with fail
              have HBr := Lib.hid (below_c HBc.out HBc.out.size hbi)
              have Hbr := Lib.hid (below_c Hbc.out Hbc.out.size hbi)
              clear d3
              go_loop [141] (fun i => ∃ p : Nat, p ≤ x.items.length ∧ i = .int .i64 p) (fun i => x.items.length - (intOf i).toNat)
              case atStart => exact ⟨0, Nat.zero_le _, rfl⟩
              case round =>
                obtain ⟨r, hr, rfl⟩ := hrel
                by_cases hrl : r < x.items.length
                · obtain ⟨q, hq, hyq, hin⟩ := OB.out r (by rw [← O4.out]; exact hrl)
                  obtain ⟨gi, oi, rfl, hgi, hci⟩ := HCY.out (by rw [← O4.out]; omega)
                  have i0 : wr.cell? ⟨gi, oi + r, none⟩ = some (.int .i64 q) := by rw [← hyq]; exact (Hbr.out.cell (p := ⟨gi, oi + r, none⟩) hgi).trans (hci r (by rw [← O4.out]; exact hrl))
                  have hfz := HFA.out _ hin
                  obtain ⟨z, hz⟩ : ∃ z : Nat, (q + k) % cs.length = z := ⟨_, rfl⟩
                  have hzl : z < cs.length := by rw [← hz]; exact Nat.mod_lt _ (by omega)
                  have e1 : ((q : Int) + (k : Int)) % (cs.length : Int) = (z : Int) := by rw [← hz]; simp
                  have e2 : ((q : Int) + (k : Int)).tmod (cs.length : Int) = (z : Int) := by rw [Int.tmod_eq_emod_of_nonneg (by omega)]; exact e1
                  rw [hz] at hfz
                  have hlk := hoi.look Try.underlying41 (x := (z : Int)) (WalkArith.wf_i64 (by omega))
                  rw [hfz] at hlk
                  have hcp : (0 : Int) < (cs.length : Int) := by omega
                  clear hci hyq hin hz hfz HFA OB HCY
                  go_wp2_with fail
                  go_round
                  case rel => exact ⟨r + 1, by omega, by go_num⟩
                  case measure => simp [intOf]; omega
                · go_wp2_with fail
                  go_roundw
                  case rel => exact ⟨j + 1, by omega, by go_num, HBr.out, Hbr.out⟩
                  case measure => simp [intOf]; omega
      · go_wp2_with fail
        go_ret
        exact ⟨rfl, hB⟩
theorem schemeOrder_walk (n : Int) (bs : List UInt8) (vb : Value) (by_ : Int) (w : World) (hn0 : 0 ≤ n) (hn1 : n < 4294967296) (hy0 : 0 ≤ by_) (hy1 : by_ < 65536) (hr : RdBytes w vb bs) (hbl : bs.length ≤ maxLen) :
    Calls Try.prog 4 #[.int .u32 n, vb, .int .u16 by_] w fun e w' => e = .returned (.bool true) ∧ Below w.heap.size w w' := by
  rcases Nat.eq_zero_or_pos bs.length with h | h
  · obtain rfl : bs = [] := List.length_eq_zero_iff.1 h
    exact schemeOrder_nil n by_ vb w hn0 hn1 hy0 hy1 hr
  · exact schemeOrder_some n by_ bs vb w hn0 hn1 hy0 hy1 hr hbl h
end Go.Proofs.Ytdahgfopighhlaa
