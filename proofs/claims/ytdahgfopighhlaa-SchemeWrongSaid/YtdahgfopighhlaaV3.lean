/-
  The walk of letterbaglaw23.SchemeCut.
-/
import Derived.Test.YtdahgfopighhlaaV2
namespace Go.Proofs.Ytdahgfopighhlaa
open Go.RowKit
set_option linter.unusedVariables false
set_option maxRecDepth 100000
theorem codes_ok (bs : List UInt8) (v : Value) (w0 w W : World) (hr : RdBytes w0 v bs) (hl : bs.length ≤ maxLen) (hw0 : Below w0.heap.size w0 W) (hw : Below w.heap.size w W) : Calls Try.prog 12 #[v] W fun e w' => ∃ a cap, e = .returned (.slice a (codesOf bs).length cap) ∧ Below w.heap.size w w' ∧ Below W.heap.size W w' ∧ ReadsT w' (.slice a (codesOf bs).length cap) (codesOf bs) := by
  refine (codes_any bs v W (hr.below hw0) hl).mono ?_
  rintro e w' ⟨v', rfl, hb, ho⟩
  obtain ⟨a, cap, rfl⟩ := OwnsT.form ho
  exact ⟨a, cap, rfl, below_c hw hw.size hb, hb, ReadsT.of_row ho⟩
/-- The made levels: where they lie. -/
theorem made_lies {w : World} {base : Nat} {v : Value} {ls : List Lev} (h : OwnsLv w base v ls) (hl : 0 < ls.length) : ∃ g cap, v = .slice (some ⟨g, 0, none⟩) ls.length cap ∧ ls.length ≤ cap ∧ cap ≤ maxLen ∧ g < w.heap.size := by
  obtain ⟨L, rfl, _, h1, h2 | ⟨g, cap, cur, hv, hb, hg, hnc, hcm, _⟩⟩ := h
  · rw [List.length_map] at hl; omega
  · exact ⟨g, cap, by rw [List.length_map]; exact hv, by rw [List.length_map]; exact hnc, hcm, (Array.getElem?_eq_some_iff.1 hg).1⟩
theorem RdGrps.lies {w : World} {a : Option Addr} {n cap : Nat} {gs : List Grp} (h : RdGrps w (.slice a n cap) gs) : 0 < gs.length → ∃ g off, a = some ⟨g, off, none⟩ ∧ g < w.heap.size ∧ ∀ i (h : i < gs.length), ∃ sv, RdInts w sv gs[i].items ∧ GrpAt w g (off + i * 4) gs[i] sv := by
  obtain ⟨a', cap', hv, hc⟩ := h
  injection hv with h1 h2 h3
  subst h1
  exact hc
theorem box_facts (wr W6 w : World) (x : Grp) (sv sy : Value) (gy o : Nat) (hB : Below w.heap.size w wr) (hb : Below W6.heap.size W6 wr) (hgy : gy < W6.heap.size) (hy : GrpAt W6 gy o x sy) (t : TypeId) :
    ∃ Wq N, wr.alloc (.cells #[.int .i64 x.lvl, .string x.name, .int .i64 x.up, sv] t) = Wq ∧ wr.heap.size = N ∧ Below w.heap.size w Wq ∧ Below W6.heap.size W6 Wq ∧ GrpAt Wq gy o x sy ∧ Wq.cell? ⟨N, 0, none⟩ = some (.int .i64 x.lvl) ∧ Wq.cell? ⟨N, 1, none⟩ = some (.string x.name) ∧ Wq.cell? ⟨N, 2, none⟩ = some (.int .i64 x.up) ∧ Wq.cell? ⟨N, 3, none⟩ = some sv := by
  have b1 := hB.alloc hB.size (.cells #[.int .i64 x.lvl, .string x.name, .int .i64 x.up, sv] t)
  have b2 := hb.alloc hb.size (.cells #[.int .i64 x.lvl, .string x.name, .int .i64 x.up, sv] t)
  refine ⟨_, _, rfl, rfl, b1, b2, hy.below b2 hgy, cells_new wr _ t 0 _ rfl, cells_new wr _ t 1 _ rfl, cells_new wr _ t 2 _ rfl, cells_new wr _ t 3 _ rfl⟩
set_option maxHeartbeats 16000000 in
theorem schemeCut_walk (n : Int) (bs : List UInt8) (vb : Value) (w : World) (hn0 : 0 ≤ n) (hn1 : n < 4294967296) (hr : RdBytes w vb bs) (hbl : bs.length ≤ maxLen) :
    Calls Try.prog 3 #[.int .u32 n, vb] w fun e w' => e = .returned (.bool true) ∧ Below w.heap.size w w' := by
  have HRT := Lib.hid (made_right (bitsOf n) [] [])
  have HPR := Lib.hid (made_pre (bitsOf n) [] [])
  have HMD := Lib.hid (fun W (h : Below w.heap.size w W) => bytes_made w W hn0 hn1 h)
  generalize madeR (bitsOf n) [] [] = ls at HRT HPR HMD
  have HCD := Lib.hid (fun W (h : Below w.heap.size w W) => codes_ok bs vb w w W hr hbl h h)
  have HCF := Lib.hid (codesOf_facts bs)
  generalize codesOf bs = cs at HCD HCF
  clear hr hbl
  obtain ⟨hl1, hl6⟩ := right_len HRT.out
  by_cases hone : ls.length = 1
  · have h1b : ((ls.length : Int) == 1) = true := by simp; omega
    clear hone
    go_enter Try.func3, Try.ntmps3
    go_wp2_with fail
    refine (awake_any _).mono ?_
    rintro e W1 ⟨rfl, hB1⟩
    go_wp2_with fail
    refine (HMD.out _ hB1).mono ?_
    rintro e W2 ⟨v, rfl, hB2, _, hown⟩
    obtain ⟨g, xcap, rfl, _, _, _⟩ := made_lies hown (by omega)
    have HX := Lib.hid hown.reads
    clear hB1 hown HMD
    go_wp2_with fail
    refine (HCD.out _ hB2).mono ?_
    rintro e W3 ⟨ca, cc, rfl, hB3, hb3, hrc⟩
    have HX3 := Lib.hid (HX.out.below hb3)
    clear hB2 hb3 HX HCD hrc
    go_wp2_with fail
    refine (right_ok ls _ w W3 HX3.out HRT.out hB3).mono ?_
    rintro e W4 ⟨rfl, hB4, _⟩
    go_wp2_with fail
    go_ret
    exact ⟨rfl, hB4⟩
  · obtain ⟨l0, l1, r, hls⟩ : ∃ l0 l1 r, ls = l0 :: l1 :: r := by
      match ls, hl1, hone with
      | [l], _, h => exact absurd rfl h
      | l0 :: l1 :: r, _, _ => exact ⟨l0, l1, r, rfl⟩
    subst hls
    have HRT2 := Lib.hid (right_tail HRT.out)
    have HPR2 : Hid (∀ l ∈ l1 :: r, l.pre ≤ 5) := fun l hl => HPR.out l (List.mem_cons_of_mem _ hl)
    have HCUT := Lib.hid (gTo_cut l0 l1 r cs)
    have hbd := gTo_bound (l0 :: l1 :: r) cs hl6 HCF.out.1
    have HIL := Lib.hid (gTo_item_len (l1 :: r) cs (l1 :: r).length (Nat.le_refl _))
    have HLV := Lib.hid (gTo_lvl (l1 :: r) cs (l1 :: r).length (Nat.le_refl _))
    have HFN : Hid (∀ g ∈ fineG l0 l1 cs, g.lvl = 0) := fun g hg => by
      unfold fineG at hg
      obtain ⟨nm, _, rfl⟩ := List.mem_map.1 hg
      rfl
    have HGA := Lib.hid (fun (v vc : Value) W hr hrc hw => groups_ok (l0 :: l1 :: r) v vc cs w W hr HRT.out HPR.out hrc HCF.out hw)
    have HGB := Lib.hid (fun (v vc : Value) W hr hrc hw => groups_ok (l1 :: r) v vc cs w W hr HRT2.out HPR2.out hrc HCF.out hw)
    rw [HCUT.out] at HGA hbd
    have hc2 := HCF.out.1
    generalize (gTo (l1 :: r) cs (l1 :: r).length).1 = GB at HGA HGB HIL HLV hbd
    generalize fineG l0 l1 cs = P at HGA HFN hbd
    have hlen : (P ++ GB.map (shG P.length)).length = P.length + GB.length := by simp
    rw [hlen] at HGA hbd
    clear hlen HCUT HCF
    have hll : (l0 :: l1 :: r).length = r.length + 2 := rfl
    have h1b : (((l0 :: l1 :: r).length : Int) == 1) = false := by simp; omega
    rw [hll] at h1b hl6
    clear hone hl1
    go_enter Try.func3, Try.ntmps3
    go_wp2_with fail
    refine (awake_any _).mono ?_
    rintro e W1 ⟨rfl, hB1⟩
    go_wp2_with fail
    refine (HMD.out _ hB1).mono ?_
    rintro e W2 ⟨v, rfl, hB2, _, hown⟩
    obtain ⟨g, xcap, rfl, hx1, hx2, hx3⟩ := made_lies hown (by omega)
    rw [hll] at hx1
    have hr := hown.reads
    rw [hll] at hr ⊢
    have HX := Lib.hid hr
    unfold maxLen at hx2
    clear hB1 hown HMD hr
    go_wp2_with fail
    refine (HCD.out _ hB2).mono ?_
    rintro e W3 ⟨ca, cc, rfl, hB3, hb3, hrc⟩
    have HX3 := Lib.hid (HX.out.below hb3)
    have HC3 := Lib.hid hrc
    clear hB2 hb3 HX HCD hrc hx3
    go_wp2_with fail
    refine (HGA.out _ _ W3 HX3.out HC3.out hB3).mono ?_
    rintro e W4 ⟨aa, capa, rfl, hB4, hb4, hra⟩
    have HX4 := Lib.hid (HX3.out.below hb4)
    have HC4 := Lib.hid (HC3.out.below hb4)
    have HRA := Lib.hid hra
    clear hB3 hb4 HX3 HC3 hra HGA
    have htl : ∀ c, RdLevs W4 (.slice (some ⟨g, 5, none⟩) (r.length + 1) c) (l1 :: r) := by
      obtain ⟨g', off', he, _, _, ht⟩ := HX4.out.tail
      simp only [Option.some.injEq, Addr.mk.injEq, and_true] at he
      obtain ⟨rfl, rfl⟩ := he
      intro c
      have := ht c
      rw [Nat.zero_add] at this
      exact this
    have HT4 := Lib.hid htl
    clear htl
    go_wp2_with fail
    refine (HGB.out _ _ W4 (HT4.out _) HC4.out hB4).mono ?_
    rintro e W5 ⟨ab, capb, rfl, hB5, hb5, hrb⟩
    have HT5 : Hid (∀ c, RdLevs W5 (.slice (some ⟨g, 5, none⟩) (r.length + 1) c) (l1 :: r)) := fun c => (HT4.out c).below hb5
    have HRA5 := Lib.hid (HRA.out.below hb5)
    have HRB := Lib.hid hrb
    clear hB4 hb5 HT4 HX4 HC4 HRA hrb HGB
    have hnb : GB.length ≤ 12000 := by omega
    have hnp : P.length ≤ 12000 := by omega
    go_wp2_with fail
    refine (right_ok (l1 :: r) _ w W5 (HT5.out _) HRT2.out hB5).mono ?_
    rintro e W6 ⟨rfl, hB6, hb6⟩
    have HA := Lib.hid (RdGrps.lies (HRA5.out.below hb6))
    have HBB := Lib.hid (RdGrps.lies (HRB.out.below hb6))
    clear hb6 HT5 HRA5 HRB hB5
    go_wp2_with fail
    have HLV' : Hid (∀ (g : Grp), g ∈ GB → 0 ≤ g.lvl ∧ g.lvl < 6 ∧ -1 ≤ g.up ∧ g.up ≤ 120000) := fun g hg => by
      obtain ⟨h1, h2, h3, h4⟩ := HLV.out g hg
      rw [← Int.natCast_mul] at h4
      have h5 : (l1 :: r).length * cs.length ≤ 6 * 2000 := Nat.mul_le_mul (by simp; omega) hc2
      have h6 : (l1 :: r).length ≤ 5 := by simp; omega
      omega
    clear HLV HRT HPR HRT2 HPR2
    go_loopw [62] (fun i wr => ∃ k : Nat, k ≤ GB.length ∧ i = .int .i64 k ∧ Below w.heap.size w wr ∧ Below W6.heap.size W6 wr) (fun i _ => GB.length - (intOf i).toNat)
    case atStart => exact ⟨0, Nat.zero_le _, rfl, hB6, Below.refl _ _⟩
    case round =>
      obtain ⟨k, hk, rfl, hB, hb⟩ := hrel
      by_cases hlt : k < GB.length
      · obtain ⟨gx, ox, rfl, hgx, hcx⟩ := HA.out (by simp; omega)
        obtain ⟨gy, oy, rfl, hgy, hcy⟩ := HBB.out (by omega)
        obtain ⟨sx, rx, ax⟩ := hcx (P.length + k) (by simp; omega)
        obtain ⟨sy, ry, ay⟩ := hcy k hlt
        have e1 : (P ++ GB.map (shG P.length))[P.length + k]'(by simp; omega) = shG P.length GB[k] := by
          rw [List.getElem_append_right (by omega)]
          simp
        rw [e1] at rx ax
        obtain ⟨x0, x1, x2, x3⟩ := ax.below hb hgx
        obtain ⟨y0, y1, y2, y3⟩ := ay.below hb hgy
        have rx' : RdInts W6 sx GB[k].items := rx
        have hm := HLV'.out _ (List.getElem_mem hlt)
        have hmi := HIL.out _ (List.getElem_mem hlt)
        clear hcx hcy HA HBB ax rx e1 HFN HIL HLV' y0 y1 y2 y3
        generalize GB[k] = x at x0 x1 x2 x3 ay rx' ry hm hmi
        simp only [shG] at x0 x1 x2
        have H := Lib.hid (fun W (h : Below W6.heap.size W6 W) => sameGroup_true x sx sy W (rx'.below h) (ry.below h) (by omega))
        unfold grpA at H
        obtain ⟨asx, csx, rfl, _⟩ := rx'
        obtain ⟨asy, csy, rfl, _⟩ := ry
        obtain ⟨hm1, hm2, hm3, hm4⟩ := hm
        by_cases hup : 0 ≤ x.up
        · rw [if_pos hup] at x2
          have e2 : x.lvl + 1 - 1 = x.lvl := by omega
          have e3 : x.up + (P.length : Int) - (P.length : Int) = x.up := by omega
          have h3 : (0 ≤ x.up + (P.length : Int)) := by omega
          go_wp2_with fail
          obtain ⟨Wq, N, hW, hN, hBq, hbq, ⟨y0, y1, y2, y3⟩, c0, c1, c2, c3⟩ := box_facts wr W6 w x (Value.slice asx x.items.length csx) (Value.slice asy x.items.length csy) gy _ hB hb hgy ay 36
          rw [hW]
          rw [hN]
          clear hW hN x0 x1 x2 x3
          go_region_with (go_at_call 15; refine (H.out _ hbq.drew).mono ?_; rintro e w2 ⟨rfl, hb2⟩)
          all_goals
            go_wp2_with fail
            go_roundw
            case rel => exact ⟨k + 1, by omega, by go_num, below_c hBq.drew hBq.drew.size hb2, below_c hbq.drew hbq.drew.size hb2⟩
            case measure => simp [intOf]; omega
        · rw [if_neg hup] at x2
          have e2 : x.lvl + 1 - 1 = x.lvl := by omega
          go_wp2_with fail
          obtain ⟨Wq, N, hW, hN, hBq, hbq, ⟨y0, y1, y2, y3⟩, c0, c1, c2, c3⟩ := box_facts wr W6 w x (Value.slice asx x.items.length csx) (Value.slice asy x.items.length csy) gy _ hB hb hgy ay 36
          rw [hW]
          rw [hN]
          clear hW hN x0 x1 x2 x3
          go_region_with (go_at_call 15; refine (H.out _ hbq.drew).mono ?_; rintro e w2 ⟨rfl, hb2⟩)
          all_goals
            go_wp2_with fail
            go_roundw
            case rel => exact ⟨k + 1, by omega, by go_num, below_c hBq.drew hBq.drew.size hb2, below_c hbq.drew hbq.drew.size hb2⟩
            case measure => simp [intOf]; omega
      · have hkb : k = GB.length := by omega
        by_cases hp0 : P.length = 0
        · go_wp2_with fail
          go_ret
          exact ⟨rfl, hB⟩
        · obtain ⟨q, hq⟩ : ∃ q, P.length = q + 1 := ⟨P.length - 1, by omega⟩
          obtain ⟨gx, ox, rfl, hgx, hcx⟩ := HA.out (by simp; omega)
          obtain ⟨sx, rx, ax⟩ := hcx q (by simp; omega)
          obtain ⟨x0, x1, x2, x3⟩ := ax.below hb hgx
          have e1 : (P ++ GB.map (shG P.length))[q]'(by simp; omega) = P[q] := by
            rw [List.getElem_append_left (by omega)]
          rw [e1, HFN.out _ (List.getElem_mem (by omega))] at x0
          clear hcx HA HBB ax rx e1 HFN HIL HLV' x1 x2 x3
          rw [hq] at hnp hbd ⊢
          go_wp2_with fail
          go_ret
          exact ⟨rfl, hB⟩
end Go.Proofs.Ytdahgfopighhlaa
