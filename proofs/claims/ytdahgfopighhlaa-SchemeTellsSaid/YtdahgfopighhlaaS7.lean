/-
  Contract of isNested.
-/
import Derived.Test.YtdahgfopighhlaaS6
namespace Go.Proofs.Ytdahgfopighhlaa
open Go.RowKit Go.Maps
set_option linter.unusedVariables false
set_option maxRecDepth 100000
def ownB (l : Lev) (x : Lab) : Bool := decide ((x.grp.size : Int) = l.pre) && plainB x.grp && (labOf l.labs x.grp).isNone
def pairsL (l : Lev) (x : Lab) : List (ByteArray × ByteArray) := (x.grp, x.pre) :: if ownB l x then [(x.grp, x.grp)] else []
def pairsTo (l : Lev) (k : Nat) : List (ByteArray × ByteArray) := (l.labs.take k).flatMap (pairsL l)
def nestedP (l next : Lev) : Prop := ∀ x ∈ l.labs.flatMap (pairsL l), ∀ y ∈ l.labs.flatMap (pairsL l), x.1 = y.1 → grpOf next x.2 = grpOf next y.2
open Classical in
noncomputable def nestedB (l next : Lev) : Bool := decide (nestedP l next)
theorem nestedB_iff {l next : Lev} : nestedB l next = true ↔ nestedP l next := by unfold nestedB; simp
theorem nestedB_false {l next : Lev} (h : ¬ nestedP l next) : nestedB l next = false := by unfold nestedB; simp [h]
theorem pairsTo_succ (l : Lev) (k : Nat) (h : k < l.labs.length) : pairsTo l (k + 1) = pairsTo l k ++ pairsL l l.labs[k] := by
  unfold pairsTo; rw [List.take_succ_eq_append_getElem h, List.flatMap_append, List.flatMap_cons, List.flatMap_nil, List.append_nil]
theorem pairsTo_sub (l : Lev) (k : Nat) : ∀ q ∈ pairsTo l k, q ∈ l.labs.flatMap (pairsL l) := by
  unfold pairsTo
  intro q hq
  rw [List.mem_flatMap] at hq ⊢
  obtain ⟨x, hx, hq⟩ := hq
  exact ⟨x, List.mem_of_mem_take hx, hq⟩
theorem pairsL_sub (l : Lev) (k : Nat) (h : k < l.labs.length) : ∀ q ∈ pairsL l l.labs[k], q ∈ l.labs.flatMap (pairsL l) := fun q hq =>
  List.mem_flatMap.2 ⟨_, List.getElem_mem h, hq⟩
/-- What the map holds tells the pairs that were met. -/
def FitOk (next : Lev) (ps : List (ByteArray × ByteArray)) (f : ByteArray → Option ByteArray) : Prop :=
  ∀ u, (f u = none → ∀ q ∈ ps, q.1 ≠ u) ∧ ∀ g, f u = some g → (∃ q ∈ ps, q.1 = u) ∧ ∀ q ∈ ps, q.1 = u → grpOf next q.2 = g
theorem FitOk_nil (next : Lev) : FitOk next [] (fun _ => none) := fun u => ⟨fun _ q hq => (by cases hq), fun g h => (by cases h)⟩
theorem FitOk_step {next : Lev} {ps : List (ByteArray × ByteArray)} {f : ByteArray → Option ByteArray} (h : FitOk next ps f) {name p : ByteArray} (hf : fitsB f name (grpOf next p) = true) :
    FitOk next (ps ++ [(name, p)]) (fun u => if u = name then some (grpOf next p) else f u) := by
  intro u
  dsimp only
  by_cases e : u = name
  · subst e
    rw [if_pos rfl]
    refine ⟨fun h => (by cases h), fun g hg => ?_⟩
    injection hg with hg
    subst hg
    refine ⟨⟨_, List.mem_append_right _ (List.mem_singleton.2 rfl), rfl⟩, fun q hq hqu => ?_⟩
    rcases List.mem_append.1 hq with hq | hq
    · unfold fitsB at hf
      cases hfu : f u with
      | none => exact absurd hqu ((h u).1 hfu q hq)
      | some o =>
        rw [hfu] at hf
        rw [((h u).2 o hfu).2 q hq hqu]
        exact of_decide_eq_true hf
    · obtain rfl := List.mem_singleton.1 hq
      rfl
  · rw [if_neg e]
    refine ⟨fun hn q hq => ?_, fun g hg => ?_⟩
    · rcases List.mem_append.1 hq with hq | hq
      · exact (h u).1 hn q hq
      · obtain rfl := List.mem_singleton.1 hq
        exact fun h => e h.symm
    · obtain ⟨⟨q, hq, hqu⟩, h2⟩ := (h u).2 g hg
      refine ⟨⟨q, List.mem_append_left _ hq, hqu⟩, fun q hq hqu => ?_⟩
      rcases List.mem_append.1 hq with hq | hq
      · exact h2 q hq hqu
      · obtain rfl := List.mem_singleton.1 hq
        exact absurd hqu.symm e
theorem Fit_fail {l next : Lev} {ps : List (ByteArray × ByteArray)} {f : ByteArray → Option ByteArray} (h : FitOk next ps f) {name p : ByteArray} (hf : fitsB f name (grpOf next p) = false) (hs : ∀ q ∈ ps, q ∈ l.labs.flatMap (pairsL l)) (hq : (name, p) ∈ l.labs.flatMap (pairsL l)) : nestedB l next = false := by
  refine nestedB_false (fun hn => ?_)
  unfold fitsB at hf
  cases hfn : f name with
  | none => rw [hfn] at hf; cases hf
  | some o =>
    rw [hfn] at hf
    obtain ⟨⟨q, hq1, hq2⟩, h2⟩ := (h name).2 o hfn
    have := hn q (hs q hq1) (name, p) hq hq2
    rw [h2 q hq1 hq2] at this
    exact of_decide_eq_false hf this
theorem Fit_end {l next : Lev} {f : ByteArray → Option ByteArray} (h : FitOk next (pairsTo l l.labs.length) f) : nestedB l next = true := by
  refine nestedB_iff.2 ?_
  have e : pairsTo l l.labs.length = l.labs.flatMap (pairsL l) := by unfold pairsTo; rw [List.take_of_length_le (Nat.le_refl _)]
  rw [e] at h
  intro x hx y hy hxy
  cases hf : f y.1 with
  | none => exact absurd hxy ((h y.1).1 hf x hx)
  | some g => rw [((h y.1).2 g hf).2 x hx hxy, ((h y.1).2 g hf).2 y hy rfl]
/-- What stands at the head of a round of isNested. -/
def NestR (l next : Lev) (v u : Value) (w : World) (k : Nat) (wr : World) : Prop :=
  ∃ n f, OwnsSS wr (w.heap.size + 2) n f ∧ n ≤ 2 * k ∧ FitOk next (pairsTo l k) f ∧ Below w.heap.size w wr ∧ w.heap.size + 4 ≤ wr.heap.size ∧
    BoxLev wr w.heap.size l v ∧ BoxLev wr (w.heap.size + 1) next u ∧ wr.cell? ⟨w.heap.size + 3, 0, none⟩ = some (.map (some (w.heap.size + 2)))
theorem World.grownBy_refl (w : World) (row : Option Nat) : w.grownBy w row := ⟨rfl, rfl, rfl, Nat.le_refl _, fun _ _ _ => rfl⟩
theorem below_row {B C : Nat} {w wr w2 : World} (h : Below B w wr) (hg : wr.grownBy w2 (some C)) (hB : B ≤ wr.heap.size) (hC : B ≤ C) : Below B w w2 :=
  h.grown hg hB (fun r e => by injection e with e; omega)
theorem box_new (w : World) (l : Lev) (v : Value) (T : TypeId) : BoxLev (w.alloc (.cells #[.string l.name, .int .i64 l.pre, v, .int .i64 l.min, .int .i64 l.cents] T)) w.heap.size l v := by
  unfold BoxLev; simp [go_sem]
theorem BoxLev.alloc {w : World} {X : Nat} {l : Lev} {v : Value} (h : BoxLev w X l v) (o : Obj) : BoxLev (w.alloc o) X l v :=
  h.below ((Below.refl _ w).alloc (Nat.le_refl _) o) (cell_lt h.1)
theorem nest_start (l next : Lev) (v u : Value) (w : World) (T T2 : TypeId) (B : Nat) (hB : B = w.heap.size + 1 + 1) : NestR l next v u w 0 ((((w.alloc (.cells #[.string l.name, .int .i64 l.pre, v, .int .i64 l.min, .int .i64 l.cents] T)).alloc (.cells #[.string next.name, .int .i64 next.pre, u, .int .i64 next.min, .int .i64 next.cents] T)).alloc (.map #[] 0)).alloc (.cells #[.map (some B)] T2)) := by
  subst hB
  refine ⟨0, fun _ => none, ?_, Nat.le_refl _, FitOk_nil _, ?_, ?_, ?_, ?_, ?_⟩
  · have := OwnsF.made (E := 9) (enc := fun s : ByteArray => Lit.string s.data.toList) ((w.alloc (.cells #[.string l.name, .int .i64 l.pre, v, .int .i64 l.min, .int .i64 l.cents] T)).alloc (.cells #[.string next.name, .int .i64 next.pre, u, .int .i64 next.min, .int .i64 next.cents] T))
    have e : ((w.alloc (.cells #[.string l.name, .int .i64 l.pre, v, .int .i64 l.min, .int .i64 l.cents] T)).alloc (.cells #[.string next.name, .int .i64 next.pre, u, .int .i64 next.min, .int .i64 next.cents] T)).heap.size = w.heap.size + 2 := by simp
    rw [e] at this
    exact this.alloc _
  · exact ((((Below.refl _ w).alloc (Nat.le_refl _) _).alloc (by simp) _).alloc (by simp; omega) _).alloc (by simp; omega) _
  · simp
  · exact (((box_new w l v T).alloc _).alloc _).alloc _
  · have := box_new (w.alloc (.cells #[.string l.name, .int .i64 l.pre, v, .int .i64 l.min, .int .i64 l.cents] T)) next u T
    have e : (w.alloc (.cells #[.string l.name, .int .i64 l.pre, v, .int .i64 l.min, .int .i64 l.cents] T)).heap.size = w.heap.size + 1 := by simp
    rw [e] at this
    exact (this.alloc _).alloc _
  · simp [go_sem]
theorem nest_next {l next : Lev} {v u : Value} {w wr w' : World} {k n' : Nat} {f' : ByteArray → Option ByteArray} (hB : Below w.heap.size w wr) (hz : w.heap.size + 4 ≤ wr.heap.size) (hL : BoxLev wr w.heap.size l v) (hN : BoxLev wr (w.heap.size + 1) next u) (hA : wr.cell? ⟨w.heap.size + 3, 0, none⟩ = some (.map (some (w.heap.size + 2))))
    (hg : wr.grownBy w' (some (w.heap.size + 2))) (ho : OwnsSS w' (w.heap.size + 2) n' f') (hn : n' ≤ 2 * k) (hf : FitOk next (pairsTo l k) f') : NestR l next v u w k w' :=
  ⟨n', f', ho, hn, hf, below_row hB hg (by omega) (by omega), Nat.le_trans hz hg.size, hL.grown hg (by simp), hN.grown hg (by simp), cell_grown hg hA (by simp)⟩
theorem pairs_one {l : Lev} {k : Nat} (h : k < l.labs.length) (ho : ownB l l.labs[k] = false) : pairsTo l (k + 1) = pairsTo l k ++ [(l.labs[k].grp, l.labs[k].pre)] := by
  rw [pairsTo_succ l k h]; unfold pairsL; rw [ho]; rfl
theorem pairs_two {l : Lev} {k : Nat} (h : k < l.labs.length) (ho : ownB l l.labs[k] = true) : pairsTo l (k + 1) = (pairsTo l k ++ [(l.labs[k].grp, l.labs[k].pre)]) ++ [(l.labs[k].grp, l.labs[k].grp)] := by
  rw [pairsTo_succ l k h]; unfold pairsL; rw [ho]; simp
theorem pairs_mem {l : Lev} {k : Nat} (h : k < l.labs.length) : (l.labs[k].grp, l.labs[k].pre) ∈ l.labs.flatMap (pairsL l) ∧ (ownB l l.labs[k] = true → (l.labs[k].grp, l.labs[k].grp) ∈ l.labs.flatMap (pairsL l)) :=
  ⟨pairsL_sub l k h _ (by unfold pairsL; simp), fun ho => pairsL_sub l k h _ (by unfold pairsL; rw [ho]; simp)⟩
theorem sub_snoc {l : Lev} {ps : List (ByteArray × ByteArray)} {q : ByteArray × ByteArray} (h : ∀ x ∈ ps, x ∈ l.labs.flatMap (pairsL l)) (hq : q ∈ l.labs.flatMap (pairsL l)) : ∀ x ∈ ps ++ [q], x ∈ l.labs.flatMap (pairsL l) := fun x hx => by
  rcases List.mem_append.1 hx with hx | hx
  · exact h x hx
  · rw [List.mem_singleton.1 hx]; exact hq
set_option maxHeartbeats 8000000 in
theorem isNested_any (l next : Lev) (v u : Value) (w : World) (hf : LevFits l) (hfn : LevFits next) (hr : RdLabs w v l.labs) (hru : RdLabs w u next.labs) (hs : sortedB l.labs) (hsn : sortedB next.labs)
    (h0 : 0 ≤ next.pre) (h1 : next.pre ≤ l.pre) (hx : ∀ x ∈ l.labs, (x.pre.size : Int) = l.pre) :
    Calls Try.prog 25 #[lvA l v, lvA next u] w fun e w' => e = .returned (.bool (nestedB l next)) ∧ Below w.heap.size w w' := by
  have hmm := @run_makeMap Try.prog
  obtain ⟨hn, hl, hxf⟩ := hf
  have HR := Lib.hid hr
  have HRU := Lib.hid hru
  have HXF := Lib.hid hxf
  have HX := Lib.hid hx
  have HS := Lib.hid hs
  have HSN := Lib.hid hsn
  have HFN := Lib.hid hfn
  have HF : Hid (LevFits l) := ⟨hn, hl, hxf⟩
  have HRES : Hid (nestedB l next = nestedB l next) := rfl
  clear hr hru hxf hx hs hsn hfn
  obtain ⟨a, cap, hv, hc⟩ := HR.out
  subst hv
  have HC := Lib.hid hc
  clear hc
  unfold lvA
  go_enter Try.func25, Try.ntmps25
  go_wp2_with fail
  go_loopw [16] (fun i wr => ∃ k : Nat, k ≤ l.labs.length ∧ i = .int .i64 k ∧ NestR l next (.slice a l.labs.length cap) u w k wr) (fun i _ => l.labs.length - (intOf i).toNat)
  case atStart => exact ⟨0, Nat.zero_le _, rfl, nest_start l next _ u w _ _ _ rfl⟩
  case round =>
    clear hmm
    obtain ⟨k, hk, rfl, n, f, hown, hnk, hfit, hB, hz, hL, hN, hA⟩ := hrel
    by_cases hlt : k < l.labs.length
    · obtain ⟨g, off, rfl, hg, hcc⟩ := HC.out (by omega)
      have hgr : g < wr.heap.size := by omega
      have c1 : wr.cell? ⟨g, off + k * 2, none⟩ = some (.string l.labs[k].pre) := (hB.cell (p := ⟨g, _, none⟩) hg).trans (hcc k hlt).1
      have c2 : wr.cell? ⟨g, off + k * 2 + 1, none⟩ = some (.string l.labs[k].grp) := (hB.cell (p := ⟨g, _, none⟩) hg).trans (hcc k hlt).2
      have x1 := (HXF.out _ (List.getElem_mem hlt)).1
      have x2 := (HXF.out _ (List.getElem_mem hlt)).2
      have x3 := HX.out _ (List.getElem_mem hlt)
      have P1 := Lib.hid (pairs_one hlt)
      have P2 := Lib.hid (pairs_two hlt)
      have PM := Lib.hid (pairs_mem hlt)
      have PS := Lib.hid (pairsTo_sub l k)
      have hps : next.pre ≤ (l.labs[k].pre.size : Int) := by omega
      have HO : Hid (ownB l l.labs[k] = (decide ((l.labs[k].grp.size : Int) = l.pre) && plainB l.labs[k].grp && (labOf l.labs l.labs[k].grp).isNone)) := rfl
      have X3 := Lib.hid x3
      clear x3 hcc HC HX HXF
      generalize ownB l l.labs[k] = ob at P1 P2 PM HO
      generalize l.labs[k].pre = xp at c1 x1 P1 P2 PM hps X3
      generalize l.labs[k].grp = xg at c2 x2 P1 P2 PM HO
      obtain ⟨wx, hwx⟩ : ∃ wx : World, wx = wr.alloc (.cells #[.string xp, .string xg] 47) := ⟨_, rfl⟩
      have gx : wr.grownBy wx (some (w.heap.size + 2)) := by rw [hwx]; exact World.grownBy_alloc _ _ _
      have HG1 : Hid (∀ W : World, Below w.heap.size w W → RdLabs W u next.labs) := fun W h => HRU.out.below h
      have F1 := fits_any next u xg xp (w.heap.size + 3) (w.heap.size + 1) (w.heap.size + 2) n f wx (cell_grown gx hA (by simp)) (hN.grown gx (by simp)) (by rw [hwx]; exact hown.alloc _) (by omega) HFN.out (HG1.out _ (below_row hB gx (by omega) (by omega))) HSN.out h0 hps x1 x2
      rw [hwx] at F1 gx
      clear hwx
      go_wp2_with fail
      refine F1.mono ?_
      rintro e w2 ⟨rfl, ho2, hg2⟩
      have g2 : wr.grownBy w2 (some (w.heap.size + 2)) := gx.trans hg2
      have L2 := hL.grown g2 (by simp)
      have N2 := hN.grown g2 (by simp)
      have A2 := cell_grown g2 hA (by simp)
      have B2 := below_row hB g2 (by omega) (by omega)
      have z2 := Nat.le_trans hz g2.size
      have e2 : wr.heap.size < w2.heap.size := Nat.lt_of_lt_of_le (by simp) hg2.size
      have d2 : w2.cell? ⟨wr.heap.size, 1, none⟩ = some (.string xg) := cell_grown hg2 (by simp [go_sem]) (by simp; omega)
      clear F1 gx hg2 hL hN hA hown g2 hB hz c1 c2 hgr
      obtain ⟨l20, l21, l22, l23, l24⟩ := L2
      cases hres : fitsB f xg (grpOf next xp)
      · have HE : Hid (nestedB l next = false) := Fit_fail hfit hres PS.out PM.out.1
        clear ho2 hfit hres N2 A2
        go_wp2_with fail
        go_ret
        exact ⟨ret_bool HE.out.symm, B2⟩
      · have fit2 := FitOk_step hfit hres
        have L2 : Hid (BoxLev w2 w.heap.size l (.slice (some ⟨g, off, none⟩) l.labs.length cap)) := ⟨l20, l21, l22, l23, l24⟩
        have PS2 := Lib.hid (sub_snoc PS.out PM.out.1)
        have H2 := Lib.hid fit2
        have HN2 := Lib.hid N2
        have HO2 := Lib.hid ho2
        clear hfit hres PS fit2 N2 ho2
        by_cases hsz : (xg.size : Int) = l.pre
        · have hne : ((xg.size : Int) != l.pre) = false := by simpa using hsz
          have HSZ := Lib.hid hsz
          clear hsz
          have HPL := Lib.hid (fun W => isPlain_any xg W x2)
          cases hpl : plainB xg
          · have HB : Hid (pairsTo l (k + 1) = pairsTo l k ++ [(xg, xp)]) := P1.out (by rw [HO.out, hpl]; simp)
            rw [hpl] at HPL
            clear P1 P2 PM HO hpl
            go_wp2_with (go_at_call 42; refine (HPL.out _).mono ?_; rintro e w3 ⟨rfl, hb3⟩)
            have g3 := (grown_none hb3).but (some (w.heap.size + 2))
            go_roundw
            case rel => exact ⟨k + 1, by omega, by go_num, nest_next B2 z2 L2 HN2.out A2 g3 (HO2.out.below hb3) (by omega) (by rw [HB.out]; exact H2.out)⟩
            case measure => simp [intOf]; omega
          · rw [hpl] at HPL
            have hw2 : w.heap.size < w2.heap.size := by omega
            have HLA : Hid (∀ W, Below w2.heap.size w2 W → Calls Try.prog 44 #[.agg #[.string l.name, .int .i64 l.pre, .slice (some ⟨g, off, none⟩) l.labs.length cap, .int .i64 l.min, .int .i64 l.cents], .string xg] W fun e w' => e = .returned (.tuple #[.string ((labOf l.labs xg).getD ⟨#[]⟩), .bool (labOf l.labs xg).isSome]) ∧ Below w2.heap.size w2 w') := fun W hW => by
              have hbw : Below w.heap.size w W := below_c B2 (by omega) hW
              refine (labelled_any l xg _ W HF.out (HR.out.below hbw) HS.out).mono ?_
              rintro e w4 ⟨rfl, hb4⟩
              exact ⟨rfl, below_c hW hW.size hb4⟩
            cases hla : labOf l.labs xg with
            | some y =>
              have HB : Hid (pairsTo l (k + 1) = pairsTo l k ++ [(xg, xp)]) := P1.out (by rw [HO.out, hla]; simp)
              rw [hla] at HLA
              clear P1 P2 PM HO hpl hla
              go_wp2_with (first | (go_at_call 42; refine (HPL.out _).mono ?_; rintro e w3 ⟨rfl, hb3⟩; obtain ⟨hc3, hf3⟩ := bcell hb3) | (go_at_call 44; refine (HLA.out _ hb3).mono ?_; rintro e w4 ⟨rfl, hb4⟩))
              have g4 := (grown_none hb4).but (some (w.heap.size + 2))
              go_roundw
              case rel => exact ⟨k + 1, by omega, by go_num, nest_next B2 z2 L2 HN2.out A2 g4 (HO2.out.below hb4) (by omega) (by rw [HB.out]; exact H2.out)⟩
              case measure => simp [intOf]; omega
            | none =>
              have hob : ob = true := by rw [HO.out, hla, hpl, decide_eq_true HSZ.out]; rfl
              have HB := Lib.hid (P2.out hob)
              have HM := Lib.hid (PM.out.2 hob)
              rw [hla] at HLA
              have hps2 : next.pre ≤ (xg.size : Int) := by have := HSZ.out; omega
              have HF2 : Hid (∀ W, Below w2.heap.size w2 W → Calls Try.prog 43 #[.string xg, .string xg, .pointer (some ⟨w.heap.size + 3, 0, none⟩), .pointer (some ⟨w.heap.size + 1, 0, none⟩)] W fun e w' => e = .returned (.bool (fitsB (fun u => if u = xg then some (grpOf next xp) else f u) xg (grpOf next xg))) ∧ OwnsSS w' (w.heap.size + 2) (n + 1 + 1) (fun u => if u = xg then some (grpOf next xg) else (fun u => if u = xg then some (grpOf next xp) else f u) u) ∧ w2.grownBy w' (some (w.heap.size + 2))) := fun W hW => by
                have hgg := (grown_none hW).but (some (w.heap.size + 2))
                have hbw : Below w.heap.size w W := below_c B2 (by omega) hW
                refine (fits_any next u xg xg (w.heap.size + 3) (w.heap.size + 1) (w.heap.size + 2) (n + 1) _ W (cell_grown hgg A2 (by simp)) (HN2.out.grown hgg (by simp)) (HO2.out.below hW) (by omega) HFN.out (HG1.out _ hbw) HSN.out h0 hps2 x2 x2).mono ?_
                rintro e w' ⟨rfl, h1, h2⟩
                exact ⟨rfl, h1, hgg.trans h2⟩
              cases hr2 : fitsB (fun u => if u = xg then some (grpOf next xp) else f u) xg (grpOf next xg)
              · have HE : Hid (nestedB l next = false) := Fit_fail H2.out hr2 PS2.out HM.out
                rw [hr2] at HF2
                clear P1 P2 PM HO hpl hla hr2 hob
                go_wp2_with (first | (go_at_call 42; refine (HPL.out _).mono ?_; rintro e w3 ⟨rfl, hb3⟩; obtain ⟨hc3, hf3⟩ := bcell hb3) | (go_at_call 44; refine (HLA.out _ hb3).mono ?_; rintro e w4 ⟨rfl, hb4⟩; obtain ⟨hc4, hf4⟩ := bcell hb4) | (go_at_call 43; refine (HF2.out _ hb4).mono ?_; rintro e w5 ⟨rfl, ho5, hg5⟩))
                go_ret
                exact ⟨ret_bool HE.out.symm, below_row B2 hg5 (by omega) (by omega)⟩
              · have H3 := Lib.hid (FitOk_step H2.out hr2)
                rw [hr2] at HF2
                clear P1 P2 PM HO hpl hla hr2 hob
                go_wp2_with (first | (go_at_call 42; refine (HPL.out _).mono ?_; rintro e w3 ⟨rfl, hb3⟩; obtain ⟨hc3, hf3⟩ := bcell hb3) | (go_at_call 44; refine (HLA.out _ hb3).mono ?_; rintro e w4 ⟨rfl, hb4⟩; obtain ⟨hc4, hf4⟩ := bcell hb4) | (go_at_call 43; refine (HF2.out _ hb4).mono ?_; rintro e w5 ⟨rfl, ho5, hg5⟩))
                go_roundw
                case rel => exact ⟨k + 1, by omega, by go_num, nest_next B2 z2 L2 HN2.out A2 hg5 ho5 (by omega) (by rw [HB.out]; exact H3.out)⟩
                case measure => simp [intOf]; omega
        · have hne : ((xg.size : Int) != l.pre) = true := by simpa using hsz
          have HB : Hid (pairsTo l (k + 1) = pairsTo l k ++ [(xg, xp)]) := P1.out (by rw [HO.out, decide_eq_false hsz]; rfl)
          clear P1 P2 PM HO hsz
          go_wp2_with fail
          go_roundw
          case rel => exact ⟨k + 1, by omega, by go_num, nest_next B2 z2 L2 HN2.out A2 (World.grownBy_refl _ _) HO2.out (by omega) (by rw [HB.out]; exact H2.out)⟩
          case measure => simp [intOf]; omega
    · have HE : Hid (nestedB l next = true) := Fit_end (f := f) (by
        obtain rfl : k = l.labs.length := by omega
        exact hfit)
      go_wp2_with fail
      go_ret
      exact ⟨ret_bool HE.out.symm, hB⟩
end Go.Proofs.Ytdahgfopighhlaa
