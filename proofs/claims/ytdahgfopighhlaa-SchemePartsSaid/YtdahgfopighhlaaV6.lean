/-
  The walk of letterbaglaw23.SchemeParts.
-/
import Derived.Test.YtdahgfopighhlaaV3
import Derived.Test.YtdahgfopighhlaaV5
namespace Go.Proofs.Ytdahgfopighhlaa
open Go.RowKit
set_option linter.unusedVariables false
set_option maxRecDepth 100000
/-- What the round keeps: the group in its block, and the counts so far. -/
def PartW (w6 : World) (X n : Nat) (xs : Array Value) (f : Nat → Nat) (W : World) : Prop :=
  Below w6.heap.size w6 W ∧ W.heap[X]? = some (.cells xs 36 (0, 0)) ∧ w6.heap.size < X ∧ W.ownsRow w6.heap.size 3 1 (.slice (some ⟨w6.heap.size, 0, none⟩) n n) n (metV n f)
theorem PartW.new {w6 wr : World} {n : Nat} {xs : Array Value} {f : Nat → Nat} (hB : Below w6.heap.size w6 wr) (ho : wr.ownsRow w6.heap.size 3 1 (.slice (some ⟨w6.heap.size, 0, none⟩) n n) n (metV n f)) (j : Nat) : PartW w6 wr.heap.size n xs f ((wr.alloc (.cells xs 36)).drewN j) :=
  ⟨below_drewN (hB.alloc hB.size _) j, World.alloc_heap_new wr _, (ho.lt w6.heap.size rfl).2, ho.alloc _⟩
theorem PartW.cells {w6 W : World} {X n : Nat} {xs : Array Value} {f : Nat → Nat} (h : PartW w6 X n xs f W) (j : Nat) : W.cell? ⟨X, j, none⟩ = xs[j]? := cell_of_row W X j xs _ _ h.2.1
theorem met_cell {W : World} {base n q : Nat} {f : Nat → Nat} (h : W.ownsRow base 3 1 (.slice (some ⟨base, 0, none⟩) n n) n (metV n f)) (hq : q < n) : W.cell? ⟨base, q, none⟩ = some (.int .i64 (f q : Nat)) ∧ W.frozen? ⟨base, q, none⟩ = false := by
  refine ⟨?_, h.frozenAt q⟩
  rw [h.cellAt q (by omega)]
  exact metV_get hq
theorem PartW.drewN {w6 W : World} {X n : Nat} {xs : Array Value} {f : Nat → Nat} (h : PartW w6 X n xs f W) (j : Nat) : PartW w6 X n xs f (W.drewN j) := ⟨below_drewN h.1 j, h.2⟩
theorem PartW.drew {w6 W : World} {X n : Nat} {xs : Array Value} {f : Nat → Nat} (h : PartW w6 X n xs f W) : PartW w6 X n xs f W.drew := ⟨h.1.drew, h.2⟩
theorem PartW.below {w6 W W' : World} {X n : Nat} {xs : Array Value} {f : Nat → Nat} (h : PartW w6 X n xs f W) (hb : Below W.heap.size W W') : PartW w6 X n xs f W' :=
  ⟨h.1.trans (hb.mono h.1.size), (hb.block _ (Array.getElem?_eq_some_iff.1 h.2.1).1).trans h.2.1, h.2.2.1, h.2.2.2.kept (grown_none hb) (Classical.em _)⟩
theorem PartW.store {w6 W : World} {X n q : Nat} {xs : Array Value} {f f' : Nat → Nat} (h : PartW w6 X n xs f W) (e : ∀ p, f' p = if p = q then f p + 1 else f p) : PartW w6 X n xs f' (W.setCell ⟨w6.heap.size, q, none⟩ (.int .i64 ((f q + 1 : Nat) : Int))) := by
  obtain ⟨h1, h2, h3, h4⟩ := h
  refine ⟨h1.setCell (p := ⟨w6.heap.size, q, none⟩) (Nat.le_refl _) _, (Below.heap_setCell W ⟨w6.heap.size, q, none⟩ _ X (by show X ≠ w6.heap.size; omega)).trans h2, h3, ?_⟩
  rw [← metV_set n f f' q e]
  exact (h4.stored q _).1
theorem made_met (n : Nat) (f : Nat → Nat) (h : ∀ q, f q = 0) : (madeCells (Value.int .i64 0).cells (n * 1)).toList = metV n f := by
  rw [Nat.mul_one, metV_zero n f h]
  show (madeCells #[Value.int .i64 0] n).toList = _
  rw [toList_madeCells_one]
theorem parts_sum {ls : List Lev} {cs : List ByteArray} (h : rightB ls = true) (hc : ∀ c ∈ cs, codeB c = true) (hp : ∀ l ∈ ls, ∀ c ∈ cs, l.pre ≤ c.size) : ∃ gs, (gTo ls cs ls.length).1 = gs ∧ (∀ i (hi : i < gs.length), ∃ m, PartAt ls cs gs gs[i] m) ∧ (∀ i (hi : i + 1 < gs.length), gs[i].lvl < gs[i + 1].lvl ∨ gs[i].lvl = gs[i + 1].lvl ∧ ltB gs[i].name gs[i + 1].name = true) ∧ (∀ q, q < cs.length * ls.length → metTo ls.length gs gs.length q = 1) := by
  refine ⟨gAll ls cs ls.length, by rw [gTo_closed ls cs ls.length (Nat.le_refl _)], fun i hi => part_at h hc hp (List.getElem_mem hi), fun i hi => order_at hi, fun q hq => met_end ls cs q hq⟩
set_option maxHeartbeats 16000000 in
theorem schemeParts_walk (n : Int) (bs : List UInt8) (vb : Value) (w : World) (hn0 : 0 ≤ n) (hn1 : n < 4294967296) (hr : RdBytes w vb bs) (hbl : bs.length ≤ maxLen) :
    Calls Try.prog 8 #[.int .u32 n, vb] w fun e w' => e = .returned (.bool true) ∧ Below w.heap.size w w' := by
  have HRT := Lib.hid (made_right (bitsOf n) [] [])
  have HPR := Lib.hid (made_pre (bitsOf n) [] [])
  have HMD := Lib.hid (fun W (h : Below w.heap.size w W) => bytes_made w W hn0 hn1 h)
  generalize madeR (bitsOf n) [] [] = ls at HRT HPR HMD
  have HCD := Lib.hid (fun W (h : Below w.heap.size w W) => codes_ok bs vb w w W hr hbl h h)
  have HCF := Lib.hid (codesOf_facts bs)
  generalize codesOf bs = cs at HCD HCF
  clear hr hbl
  obtain ⟨hl1, hl6⟩ := right_len HRT.out
  have hc2 := HCF.out.1
  have hpc : ∀ l ∈ ls, ∀ c ∈ cs, l.pre ≤ c.size := fun l hl c hc => by rw [(HCF.out.2 c hc).2]; exact HPR.out l hl
  obtain ⟨gs, hgs, hpt, hor, hend⟩ := parts_sum HRT.out (fun c hc => (HCF.out.2 c hc).1) hpc
  have HPT := Lib.hid hpt
  have HOR := Lib.hid hor
  have HEND := Lib.hid hend
  clear hpt hor hend
  have HFI := Lib.hid (fun (v : Value) (m q : Nat) (hm : m < ls.length) (hq : q < cs.length) W hr hw => find_ok ls v cs[q] m w W hr HRT.out (HCF.out.2 _ (List.getElem_mem hq)).1 (fun l hl => hpc l hl _ (List.getElem_mem hq)) hm hw)
  have HGA := Lib.hid (fun (v vc : Value) W hr hrc hw => groups_ok ls v vc cs w W hr HRT.out HPR.out hrc HCF.out hw)
  have hbd := gTo_bound ls cs hl6 HCF.out.1
  rw [hgs] at HGA hbd
  clear hpc HRT HPR HCF hgs
  obtain ⟨N, hN, hN2, hNle⟩ : ∃ N : Nat, (cs.length : Int) * (ls.length : Int) = (N : Int) ∧ Hid (N = cs.length * ls.length) ∧ N ≤ 12000 := ⟨cs.length * ls.length, (Int.natCast_mul _ _).symm, Lib.hid rfl, Nat.le_trans (Nat.mul_le_mul hc2 hl6) (by decide)⟩
  go_enter Try.func8, Try.ntmps8
  go_wp2_with fail
  refine (awake_any _).mono ?_
  rintro e W1 ⟨rfl, hB1⟩
  go_wp2_with fail
  refine (HMD.out _ hB1).mono ?_
  rintro e W2 ⟨v, rfl, hB2, _, hown⟩
  obtain ⟨g, xcap, rfl, hx1, hx2, hx3⟩ := made_lies hown (by omega)
  have HX := Lib.hid hown.reads
  clear hB1 hown HMD hx1 hx2 hx3
  go_wp2_with fail
  refine (HCD.out _ hB2).mono ?_
  rintro e W3 ⟨ca, cc, rfl, hB3, hb3, hrc⟩
  have HX3 := Lib.hid (HX.out.below hb3)
  have HC3 := Lib.hid hrc
  clear hB2 hb3 HX HCD hrc
  go_wp2_with fail
  refine (HGA.out _ _ W3 HX3.out HC3.out hB3).mono ?_
  rintro e W4 ⟨aa, capa, rfl, hB4, hb4, hra⟩
  have HX4 := Lib.hid (HX3.out.below hb4)
  have HC4 := Lib.hid (HC3.out.below hb4)
  have HRA := Lib.hid (RdGrps.lies hra)
  clear hB3 hb4 HX3 HC3 hra HGA
  go_wp2_with fail
  obtain ⟨i0, hi⟩ := info_parts Try.infoI
  obtain ⟨w9, hmk, hownL, hgL⟩ := run_make_full (P := Try.prog) W4 W4.heap.size 34 3 i0 (.int .i64 0) 1 Try.underlying34 hi.1 hi.2.1 hi.2.2.1 .i64 .i64 N (by rw [hi.2.2.2]; omega) (by unfold maxLen; omega) (Nat.le_refl _)
  clear hi
  rw [hmk]
  go_wp2_with fail
  have hb9 : Below W4.heap.size W4 w9 := (Below.refl _ _).grown hgL (Nat.le_refl _) (fun _ e => by cases e)
  rw [made_met N (metTo ls.length gs 0) (fun q => by simp [metTo])] at hownL
  clear hmk hgL
  have hBW := hB4
  clear hB4
  go_loopw [41] (fun i wr => ∃ k : Nat, k ≤ gs.length ∧ i = .int .i64 k ∧ Below W4.heap.size W4 wr ∧ wr.ownsRow W4.heap.size 3 1 (.slice (some ⟨W4.heap.size, 0, none⟩) N N) N (metV N (metTo ls.length gs k))) (fun i _ => gs.length - (intOf i).toNat)
  case atStart => exact ⟨0, Nat.zero_le _, rfl, hb9, hownL⟩
  case round =>
    clear hb9 hownL
    obtain ⟨k, hk, rfl, hB, hownL⟩ := hrel
    by_cases hlt : k < gs.length
    · obtain ⟨gx, ox, rfl, hgx, hcx⟩ := HRA.out (by omega)
      obtain ⟨sx, rx, ax⟩ := hcx k hlt
      obtain ⟨m, hP⟩ := HPT.out k hlt
      have hprev : ∀ k', k' + 1 = k → ∃ (m0 : Int) (n0 : ByteArray), wr.cell? ⟨gx, ox + k' * 4, none⟩ = some (.int .i64 m0) ∧ wr.cell? ⟨gx, ox + k' * 4 + 1, none⟩ = some (.string n0) ∧ (m0 < m ∨ m0 = m ∧ ltB n0 gs[k].name = true) := fun k' hk' => by
        subst hk'
        obtain ⟨_, _, a0⟩ := hcx k' (by omega)
        obtain ⟨c0, c1, _, _⟩ := a0.below hB hgx
        refine ⟨_, _, c0, c1, ?_⟩
        rw [← hP.lvl]
        exact HOR.out k' hlt
      have hup : (gs[k].up = -1 ∧ m + 1 = ls.length) ∨ (m + 1 < ls.length ∧ ∃ u : Nat, u < gs.length ∧ gs[k].up = u ∧ ∃ n2 : ByteArray, (∀ W, Below W4.heap.size W4 W → W.cell? ⟨gx, ox + u * 4, none⟩ = some (.int .i64 ((m : Int) + 1)) ∧ W.cell? ⟨gx, ox + u * 4 + 1, none⟩ = some (.string n2)) ∧ ∀ p (hp : p < gs[k].items.length) (q : Nat) (hq : q < cs.length), gs[k].items[p] = q → grpOf (lv ls (m + 1)) cs[q] = n2) := by
        rcases hP.up with h | ⟨h1, u, hu, h2, h3, h4⟩
        · exact Or.inl h
        · refine Or.inr ⟨h1, u, hu, h2, gs[u].name, fun W hW => ?_, h4⟩
          obtain ⟨_, _, a0⟩ := hcx u hu
          obtain ⟨c0, c1, _, _⟩ := a0.below hW hgx
          rw [h3] at c0
          exact ⟨c0, c1⟩
      obtain ⟨x0, x1, x2, x3⟩ := ax.below hB hgx
      rw [hP.lvl] at x0
      have hm := hP.hm
      have hs1 := hP.some_
      have hs2 := hP.few
      have HIT := Lib.hid hP.item
      have HIO := Lib.hid hP.order
      have HLX := Lib.hid hP.lvl
      have HME := Lib.hid (fun q => metAt_end ls.length gs k hlt q)
      clear hP ax HOR HPT hcx HRA
      generalize gs[k] = x at hprev hup x0 x1 x2 x3 rx hs1 hs2 HIT HIO HLX HME
      obtain ⟨ai, ci, rfl, hci⟩ := rx
      have HCI := Lib.hid hci
      have HPV := Lib.hid hprev
      have HUP := Lib.hid hup
      clear hci hprev hup
      have hgw : gx < wr.heap.size := by have := hB.size; omega
      have hgne : ¬ gx = wr.heap.size := by omega
      have d1 : decide ((m : Int) < 0) = false := by simp
      have d2 : decide (ls.length ≤ m) = false := by simp; omega
      have d3 : ((x.items.length : Int) == 0) = false := beq_eq_false_iff_ne.2 (by omega)
      go_wp2_with fail
      go_cut [98] (fun b wx => b = .bool false ∧ PartW W4 wr.heap.size N #[.int .i64 m, .string x.name, .int .i64 x.up, .slice ai x.items.length ci] (metTo ls.length gs k) wx)
      case first =>
        as_aux_lemma =>
          have HFIN := Lib.hid (fun j => PartW.new (xs := #[.int .i64 m, .string x.name, .int .i64 x.up, .slice ai x.items.length ci]) hB hownL j)
          by_cases hk0 : 0 < k
          · obtain ⟨m0, n0, p0, p1, hor⟩ := HPV.out (k - 1) (by omega)
            have hd0 : decide (0 < k) = true := decide_eq_true hk0
            have hw1 : IntKind.i64.wrap ((k : Int) - 1) = (k : Int) - 1 := IntWalk.i64_in _ (by omega)
            have hw2 : 0 ≤ (k : Int) - 1 := by omega
            have hw3 : ((k : Int) - 1).toNat = k - 1 := by omega
            have hw4 : (k : Int) - 1 < (gs.length : Int) := by omega
            have hw5 : 1 ≤ (k : Int) := by omega
            have hw6 : k - 1 < gs.length := by omega
            clear HPV HUP hownL hB
            rcases hor with hor | ⟨rfl, hor⟩
            · have d4 : decide ((m : Int) < m0) = false := by simp; omega
              have d5 : (m0 == (m : Int)) = false := by simp; omega
              clear hor
              go_quiet (fail)
              go_wp2_with fail
              go_meet
              exact ⟨rfl, HFIN.out _⟩
            · have hle := (less_eq n0 x.name).trans hor
              have HLE := Lib.hid hle
              have d4 : decide ((m : Int) < (m : Int)) = false := by simp
              have d5 : ((m : Int) == (m : Int)) = true := by simp
              have d6 : decide (m < m) = false := by simp
              have d7 : (m == m) = true := by simp
              clear hor
              go_quiet (fail)
              go_wp2_with fail
              go_meet
              exact ⟨by first | rfl | (rw [HLE.out]; rfl), HFIN.out _⟩
          · obtain rfl : k = 0 := by omega
            clear HPV HUP hownL hB
            go_quiet (fail)
            go_wp2_with fail
            go_meet
            exact ⟨rfl, HFIN.out _⟩
      case rest =>
        obtain ⟨rfl, hpw⟩ := hcut
        clear x0 x1 x2 x3 hB hownL HPV d1 d2 d3
        have hX := hpw.2.2.1
        have hXlt : wr.heap.size < wc.heap.size := (Array.getElem?_eq_some_iff.1 hpw.2.1).1
        generalize wr.heap.size = X at hpw hX hXlt hgw hgne ⊢
        have b0 : wc.cell? ⟨X, 0, none⟩ = some (.int .i64 m) := hpw.cells 0
        have b1 : wc.cell? ⟨X, 1, none⟩ = some (.string x.name) := hpw.cells 1
        have b2 : wc.cell? ⟨X, 2, none⟩ = some (.int .i64 x.up) := hpw.cells 2
        have b3 : wc.cell? ⟨X, 3, none⟩ = some (.slice ai x.items.length ci) := hpw.cells 3
        go_wp2_with fail
        go_cut [137] (fun b wx => b = .bool false ∧ PartW W4 X N #[.int .i64 m, .string x.name, .int .i64 x.up, .slice ai x.items.length ci] (metTo ls.length gs k) wx)
        case first =>
          as_aux_lemma =>
            have HFIN := Lib.hid (fun j => hpw.drewN j)
            have hbw := hpw.1
            clear hpw
            rcases HUP.out with ⟨hu, hm1⟩ | ⟨hm1, u, hu, hue, n2, hcu, _⟩
            · rw [hu] at b2
              clear HUP
              have e1 : ((m : Int) == (ls.length : Int) - 1) = true := beq_iff_eq.2 (by omega)
              have e2 : IntKind.i64.wrap ((ls.length : Int) - 1) = (ls.length : Int) - 1 := IntWalk.i64_in _ (by omega)
              have e3 : decide ((gs.length : Int) ≤ -1) = false := by simp; omega
              go_quiet (fail)
              go_wp2_with fail
              go_meet
              exact ⟨rfl, HFIN.out _⟩
            · rw [hue] at b2
              obtain ⟨u0, u1⟩ := hcu wc hbw
              clear HUP hcu
              have e1 : ((m : Int) == (ls.length : Int) - 1) = false := beq_eq_false_iff_ne.2 (by omega)
              have e2 : IntKind.i64.wrap ((ls.length : Int) - 1) = (ls.length : Int) - 1 := IntWalk.i64_in _ (by omega)
              have e3 : decide (gs.length ≤ u) = false := by simp; omega
              have e4 : ((u : Int) == -1) = false := beq_eq_false_iff_ne.2 (by omega)
              have e5 : decide ((u : Int) < -1) = false := decide_eq_false (by omega)
              have e6 : IntKind.i64.wrap ((m : Int) + 1) = (m : Int) + 1 := IntWalk.i64_in _ (by omega)
              have e7 : ((m : Int) + 1 != (m : Int) + 1) = false := by simp
              go_quiet (fail)
              go_wp2_with fail
              go_meet
              exact ⟨rfl, HFIN.out _⟩
        case rest =>
          clear hpw b0 b1 b2 b3
          obtain ⟨rfl, hpw⟩ := hcut
          have b0 : wc.cell? ⟨X, 0, none⟩ = some (.int .i64 m) := hpw.cells 0
          have b1 : wc.cell? ⟨X, 1, none⟩ = some (.string x.name) := hpw.cells 1
          have b2 : wc.cell? ⟨X, 2, none⟩ = some (.int .i64 x.up) := hpw.cells 2
          have b3 : wc.cell? ⟨X, 3, none⟩ = some (.slice ai x.items.length ci) := hpw.cells 3
          go_wp2_with fail
          have HCC : Hid (0 < cs.length → ∃ g off, ca = some ⟨g, off, none⟩ ∧ g < W4.heap.size ∧ ∀ q (hq : q < cs.length), W4.cell? ⟨g, off + q, none⟩ = some (.string cs[q])) := Lib.hid (fun h => by
            obtain ⟨a, cap, e, hc⟩ := HC4.out
            obtain ⟨g, off, rfl, hg, hcc⟩ := hc h
            injection e with e1
            exact ⟨g, off, e1, hg, hcc⟩)
          have hst : PartW W4 X N #[.int .i64 m, .string x.name, .int .i64 x.up, .slice ai x.items.length ci] (metAt ls.length gs k x 0) wc := by
            have : metAt ls.length gs k x 0 = metTo ls.length gs k := funext (metAt_zero ls.length gs k x)
            rw [this]
            exact hpw
          clear hpw
          go_loopw [141] (fun i wi => ∃ p : Nat, p ≤ x.items.length ∧ i = .int .i64 p ∧ PartW W4 X N #[.int .i64 m, .string x.name, .int .i64 x.up, .slice ai x.items.length ci] (metAt ls.length gs k x p) wi) (fun i _ => x.items.length - (intOf i).toNat)
          case atStart => exact ⟨0, Nat.zero_le _, rfl, hst⟩
          case round =>
            clear hst b0 b1 b2 b3
            obtain ⟨p, hp, rfl, hpw⟩ := hrel
            by_cases hpl : p < x.items.length
            · obtain ⟨c, hc, hcv, hcn⟩ := HIT.out p hpl
              obtain ⟨gi, oi, rfl, hgi, hcell⟩ := HCI.out (by omega)
              obtain ⟨gc, oc, rfl, hgc, hcc⟩ := HCC.out (by omega)
              have hbw := hpw.1
              have i0 : wr.cell? ⟨gi, oi + p, none⟩ = some (.int .i64 c) := by rw [← hcv]; exact (hbw.cell (p := ⟨gi, oi + p, none⟩) hgi).trans (hcell p hpl)
              have hpr : Hid (0 < p → ∃ z : Int, wr.cell? ⟨gi, oi + (p - 1), none⟩ = some (.int .i64 z) ∧ z < c) := Lib.hid (fun h0 => by
                refine ⟨x.items[p - 1]'(by omega), (hbw.cell (p := ⟨gi, oi + (p - 1), none⟩) hgi).trans (hcell (p - 1) (by omega)), ?_⟩
                rw [← hcv]
                exact List.pairwise_iff_getElem.1 HIO.out (p - 1) p (by omega) hpl (by omega))
              have HCO := Lib.hid (fun W (hW : Below W4.heap.size W4 W) => (hW.cell (p := ⟨gc, oc + c, none⟩) hgc).trans (hcc c hc))
              have HF1 := Lib.hid (fun W hr hw => HFI.out (.slice (some ⟨g, 0, none⟩) ls.length xcap) m c hm hc W hr hw)
              rw [← lv_get hm, hcn] at HF1
              have HF2 : Hid (0 ≤ x.up → ∃ u : Nat, ∃ n2 : ByteArray, x.up = u ∧ u < gs.length ∧ (∀ W, Below W4.heap.size W4 W → W.cell? ⟨gx, ox + u * 4 + 1, none⟩ = some (.string n2)) ∧ ∀ W z, z = (m : Int) + 1 → RdLevs W (.slice (some ⟨g, 0, none⟩) ls.length xcap) ls → Below w.heap.size w W → Calls Try.prog 19 #[.slice (some ⟨g, 0, none⟩) ls.length xcap, .int .i64 z, .string cs[c]] W fun e w' => e = .returned (.tuple #[.string n2, .int .i64 0]) ∧ Below w.heap.size w w' ∧ Below W.heap.size W w') := Lib.hid (fun h0 => by
                rcases HUP.out with ⟨h, _⟩ | ⟨hm1, u, hu, hue, n2, hcu, hnn⟩
                · omega
                · refine ⟨u, n2, hue, hu, fun W hW => (hcu W hW).2, fun W z hz hr hw => ?_⟩
                  subst hz
                  have := HFI.out (.slice (some ⟨g, 0, none⟩) ls.length xcap) (m + 1) c hm1 hc W hr hw
                  rw [← lv_get hm1, hnn p hpl c hc hcv] at this
                  exact this)
              have HSU := Lib.hid (fun q => metAt_succ ls.length gs k x m c p hm HLX.out HIO.out hpl hcv q)
              obtain ⟨cL, hcL, hcLe, hcN⟩ : ∃ cL : Nat, (c : Int) * (ls.length : Int) = (cL : Int) ∧ Hid (cL = c * ls.length) ∧ cL + m < N := ⟨c * ls.length, (Int.natCast_mul _ _).symm, Lib.hid rfl, by rw [hN2.out]; exact place_lt hc hm⟩
              obtain ⟨y1, y2⟩ := met_cell hpw.2.2.2 hcN
              have hfle := metAt_le ls.length gs k x p (cL + m)
              have HST := Lib.hid (hpw.store (q := cL + m) (f' := metAt ls.length gs k x (p + 1)) (fun q => by rw [HSU.out q, hcLe.out]))
              have b0 : wr.cell? ⟨X, 0, none⟩ = some (.int .i64 m) := hpw.cells 0
              have b3 : wr.cell? ⟨X, 3, none⟩ = some (.slice (some ⟨gi, oi, none⟩) x.items.length ci) := hpw.cells 3
              have hXw : X < wr.heap.size := (Array.getElem?_eq_some_iff.1 hpw.2.1).1
              have hLw : W4.heap.size < wr.heap.size := (hpw.2.2.2.lt W4.heap.size rfl).2
              have hXne : ¬ X = W4.heap.size := by omega
              clear hcell hcc hcv hcn HIT HIO HCI HCC HUP HFI HSU hpw hbw hXlt hgi
              generalize metAt ls.length gs k x p (cL + m) = fv at y1 hfle HST
              have d1 : decide ((c : Int) < 0) = false := by simp
              have d2 : decide (cs.length ≤ c) = false := by simp; omega
              go_upto_region 18 with fail
              go_cut [167] (fun b wx => b = .bool false ∧ wx = wr)
              case first =>
                as_aux_lemma =>
                  by_cases hp0 : 0 < p
                  · obtain ⟨z, hz, hzc⟩ := hpr.out hp0
                    have hd0 : decide (0 < p) = true := decide_eq_true hp0
                    have hw1 : IntKind.i64.wrap ((p : Int) - 1) = (p : Int) - 1 := IntWalk.i64_in _ (by omega)
                    have hw2 : 0 ≤ (p : Int) - 1 := by omega
                    have hw3 : ((p : Int) - 1).toNat = p - 1 := by omega
                    have hw4 : (p : Int) - 1 < (x.items.length : Int) := by omega
                    have hw5 : 1 ≤ (p : Int) := by omega
                    have hw6 : p - 1 < x.items.length := by omega
                    have d3 : decide ((c : Int) ≤ z) = false := by simp; omega
                    go_wp2_with fail
                    go_meet
                    exact ⟨rfl, rfl⟩
                  · obtain rfl : p = 0 := by omega
                    go_wp2_with fail
                    go_meet
                    exact ⟨rfl, rfl⟩
              case rest =>
                obtain ⟨rfl, rfl⟩ := hcut
                clear d1 d2 hpr i0 b3
                go_wp2_with fail
                have e9 : ((fv + 1 : Nat) : Int) = (fv : Int) + 1 := by simp
                rw [e9] at HST
                obtain ⟨w2, hw2⟩ : ∃ w2, wc.setCell ⟨W4.heap.size, cL + m, none⟩ (.int .i64 ((fv : Int) + 1)) = w2 := ⟨_, rfl⟩
                rw [hw2] at HST
                rw [hw2]
                clear hw2 y1 y2 b0 e9 hcL hfle hXw hLw
                have HB2 := Lib.hid HST.out.1
                have b0 : w2.cell? ⟨X, 0, none⟩ = some (.int .i64 m) := HST.out.cells 0
                have c0 := HCO.out w2 HB2.out
                have HW2 := Lib.hid (below_c hBW hBW.size HB2.out)
                go_cut [14, 15] (fun a b wx => a = .string x.name ∧ b = .int .i64 0 ∧ PartW W4 X N #[.int .i64 m, .string x.name, .int .i64 x.up, .slice (some ⟨gi, oi, none⟩) x.items.length ci] (metAt ls.length gs k x (p + 1)) wx)
                case first =>
                  as_aux_lemma =>
                    go_region_with (go_at_call 19; refine (HF1.out _ (HX4.out.below HB2.out.drew) HW2.out.drew).mono ?_; rintro e w3 ⟨rfl, _, hb3⟩)
                    all_goals
                      go_wp2_with fail
                      go_meet
                      exact ⟨rfl, rfl, HST.out.drew.below hb3⟩
                case rest =>
                  clear HST HB2 b0 c0 HW2
                  obtain ⟨rfl, rfl, hpw3⟩ := hcut
                  have b0 : wc.cell? ⟨X, 0, none⟩ = some (.int .i64 m) := hpw3.cells 0
                  have b1 : wc.cell? ⟨X, 1, none⟩ = some (.string x.name) := hpw3.cells 1
                  have b2 : wc.cell? ⟨X, 2, none⟩ = some (.int .i64 x.up) := hpw3.cells 2
                  have c0 := HCO.out wc hpw3.1
                  have HP3 := Lib.hid hpw3
                  have HW3 := Lib.hid (below_c hBW hBW.size hpw3.1)
                  clear hpw3
                  by_cases hup0 : 0 ≤ x.up
                  · obtain ⟨u, n2, hue, hu, hcn, hf⟩ := HF2.out hup0
                    have HFF := Lib.hid hf
                    have HCN := Lib.hid hcn
                    have HUE := Lib.hid hue
                    rw [hue] at b2
                    clear hf hcn hue hup0 HF2 HF1
                    go_wp2_with fail
                    go_cut [16, 17] (fun a b wx => a = .string n2 ∧ b = .int .i64 0 ∧ PartW W4 X N #[.int .i64 m, .string x.name, .int .i64 x.up, .slice (some ⟨gi, oi, none⟩) x.items.length ci] (metAt ls.length gs k x (p + 1)) wx)
                    case first =>
                      as_aux_lemma =>
                        clear HME HLX HUE HCN HCO b1 b2 hgw hgne hX hXne hgc hu hlt hk hs1 hs2 hNle hbd hl1 hn0 hn1
                        go_region_with (go_at_call 19; (refine (HFF.out _ _ ?_ (HX4.out.below HP3.out.1.drew) HW3.out.drew).mono ?_); (first | rfl | exact IntWalk.i64_in _ (by omega)); rintro e w3 ⟨rfl, _, hb3⟩)
                        all_goals
                          go_wp2_with fail
                          go_meet
                          exact ⟨rfl, rfl, HP3.out.drew.below hb3⟩
                    case rest =>
                      clear HP3 b0 b1 b2 c0 HW3
                      obtain ⟨rfl, rfl, hpw4⟩ := hcut
                      have b2 : wc.cell? ⟨X, 2, none⟩ = some (.int .i64 x.up) := hpw4.cells 2
                      rw [HUE.out] at b2
                      have u1 := HCN.out wc hpw4.1
                      have HP4 := Lib.hid hpw4
                      clear hpw4
                      go_wp2_with fail
                      go_roundw
                      case rel => exact ⟨p + 1, by omega, by go_num, HP4.out⟩
                      case measure => simp [intOf]; omega
                  · clear HF2 HF1
                    go_wp2_with fail
                    go_roundw
                    case rel => exact ⟨p + 1, by omega, by go_num, HP3.out⟩
                    case measure => simp [intOf]; omega
            · obtain rfl : p = x.items.length := by omega
              have hme : metAt ls.length gs k x x.items.length = metTo ls.length gs (k + 1) := funext HME.out
              rw [hme] at hpw
              have HP5 := Lib.hid hpw
              clear hpw hme
              go_wp2_with fail
              go_roundw
              case rel => exact ⟨k + 1, by omega, by go_num, HP5.out.1, HP5.out.2.2.2⟩
              case measure => simp [intOf]; omega
    · obtain rfl : k = gs.length := by omega
      clear HPT HOR HFI HRA HX4 HC4
      go_wp2_with fail
      have hend : Below W4.heap.size W4 wr ∧ wr.ownsRow W4.heap.size 3 1 (.slice (some ⟨W4.heap.size, 0, none⟩) N N) N (metV N (metTo ls.length gs gs.length)) := ⟨hB, hownL⟩
      clear hB hownL
      go_loopw [230] (fun i wi => ∃ q : Nat, q ≤ N ∧ i = .int .i64 q ∧ Below W4.heap.size W4 wi ∧ wi.ownsRow W4.heap.size 3 1 (.slice (some ⟨W4.heap.size, 0, none⟩) N N) N (metV N (metTo ls.length gs gs.length))) (fun i _ => N - (intOf i).toNat)
      case atStart => exact ⟨0, Nat.zero_le _, rfl, hend⟩
      case round =>
        clear hend
        obtain ⟨q, hq, rfl, hB, hownL⟩ := hrel
        by_cases hql : q < N
        · obtain ⟨y1, y2⟩ := met_cell hownL hql
          rw [HEND.out q (by rw [← hN2.out]; exact hql)] at y1
          have y3 : wr.cell? ⟨W4.heap.size, q, none⟩ = some (.int .i64 1) := y1
          have HE := Lib.hid (And.intro hB hownL)
          clear y1 y2 hB hownL
          go_wp2_with fail
          go_roundw
          case rel => exact ⟨q + 1, by omega, by go_num, HE.out⟩
          case measure => simp [intOf]; omega
        · go_wp2_with fail
          go_ret
          exact ⟨rfl, below_c hBW hBW.size hB⟩
end Go.Proofs.Ytdahgfopighhlaa
