import Derived.Test.YtojedplbhialpaaGreatDoorGF
import Derived.Test.YtojedplbhialpaaGreatDoorGG
import Derived.Deep.QuietTactic
import Derived.BigQuiet
import Derived.Laws.StructEq
import Derived.Test.YtojedplbhialpaaGreatDoorGL
import Derived.Test.YtojedplbhialpaaGreatDoorGA
import Derived.Test.YtojedplbhialpaaGreatDoorGC
/-! MO -/
namespace Go.Proofs.YtojedplbhialpaaGreatDoor
open Go.RowKit Go.Sort
set_option linter.unusedVariables false
set_option maxRecDepth 100000
def pcLn (m : Mai) (bar : Int) (B R : Nat → Int) (ls : List Lev) (zs : List Int) (i : Nat) : Ln :=
  ⟨0, 1, if brdAt m i then 1 else 0, (m.ps.getD i ⟨0, 0, ⟨#[]⟩, 0, false⟩).grams, B i, if brdAt m i then bar else 0, centL ls (zs.getD i (-1)), R i⟩
def partTo (zs : List Int) (pl : Nat → Ln) (k j : Nat) : List Ln := ((List.range k).filter (fun i => decide (zs.getD i (-1) = (j : Int)))).map pl
theorem partTo_at (zs : List Int) (pl : Nat → Ln) {k j : Nat} (h : zs.getD k (-1) = (j : Int)) : partTo zs pl (k + 1) j = partTo zs pl k j ++ [pl k] := by
  unfold partTo
  rw [List.range_succ, List.filter_append, List.map_append, List.filter_cons_of_pos (by simpa using h), List.filter_nil]; rfl
theorem partTo_ne (zs : List Int) (pl : Nat → Ln) {k j : Nat} (h : zs.getD k (-1) ≠ (j : Int)) : partTo zs pl (k + 1) j = partTo zs pl k j := by
  unfold partTo
  rw [List.range_succ, List.filter_append, List.map_append, List.filter_cons_of_neg (by simpa using h), List.filter_nil, List.map_nil, List.append_nil]
theorem partTo_len (zs : List Int) (pl : Nat → Ln) (k j : Nat) : (partTo zs pl k j).length ≤ k := by
  unfold partTo
  rw [List.length_map]
  have := List.length_filter_le (fun i => decide (zs.getD i (-1) = (j : Int))) (List.range k)
  rwa [List.length_range] at this
theorem partTo_in {m : Int} {zs : List Int} {pl : Nat → Ln} {k j : Nat} (h : ∀ i, i < k → LnIn m (pl i)) : ∀ x ∈ partTo zs pl k j, LnIn m x := by
  intro x hx
  unfold partTo at hx
  obtain ⟨i, hi, rfl⟩ := List.mem_map.1 hx
  exact h i (List.mem_range.1 (List.mem_filter.1 hi).1)
theorem Tryz.infoSL : (Tryz.prog.info? 40).map (fun i => (i.zero, i.size, i.bytes)) = some (some (.slice none 0 0), 1, 24) := by kernel_rfl
theorem Tryz.infoLine : (Tryz.prog.info? 42).map (fun i => (i.zero, i.size, i.bytes)) = some (some (.agg #[.int .i64 0, .int .i64 0, .int .i64 0, .int .i64 0, .int .i64 0, .int .i64 0, .int .i64 0, .int .i64 0]), 8, 64) := by kernel_rfl
structure LnF (w : World) (base BB n : Nat) (G : Nat → List Ln) (F : Nat → Value) : Prop where
  row : w.rowIs BB 40 n F
  own : ∀ u, u < n → w.ownsRow base 42 8 (F u) (G u).length ((G u).flatMap lnC)
  apart : ∀ u, u < n → ∀ u', u' < n → u ≠ u' → ∀ b, (F u).ownBlock = some b → (F u').ownBlock ≠ some b
theorem LnF.below {w w' : World} {base BB n : Nat} {G : Nat → List Ln} {F : Nat → Value} (h : LnF w base BB n G F) (hb : Below w.heap.size w w') : LnF w' base BB n G F :=
  ⟨rowIs_below h.row hb h.row.lt, fun u hu => (h.own u hu).kept (grown_none hb) (by
    cases (F u).ownBlock with
    | none => exact .inl rfl
    | some b => exact .inr (by simp)), h.apart⟩
theorem ownL_lt {w : World} {base : Nat} {v : Value} {zs : List Value} {n : Nat} (h : w.ownsRow base 42 8 v n zs) {b : Nat} (hb : v.ownBlock = some b) : base ≤ b ∧ b < w.heap.size := h.lt b hb
theorem LnF.put {w w1 : World} {base BB n : Nat} {G : Nat → List Ln} {F : Nat → Value} (h : LnF w base BB n G F) {u : Nat} (hu : u < n) (x : Ln) (hBB : BB < base) {gg cap : Nat}
    (hown : w1.ownsRow base 42 8 (.slice (some ⟨gg, 0, none⟩) ((G u).length + 1) cap) ((G u).length + 1) ((G u).flatMap lnC ++ lnC x)) (hg : w.grownBy w1 (F u).ownBlock) (hat : (F u).ownBlock = some gg ∨ w.heap.size ≤ gg) :
    LnF (w1.setCell ⟨BB, u, none⟩ (.slice (some ⟨gg, 0, none⟩) ((G u).length + 1) cap)) base BB n (fun i => if i = u then G u ++ [x] else G i) (fun i => if i = u then .slice (some ⟨gg, 0, none⟩) ((G u).length + 1) cap else F i) := by
  have hrow : w1.rowIs BB 40 n F := h.row.of_block (hg.block BB h.row.lt (fun e => by
    have := (ownL_lt (h.own u hu) e.symm).1
    omega))
  have hkeep : ∀ i, i < n → i ≠ u → w1.ownsRow base 42 8 (F i) (G i).length ((G i).flatMap lnC) := fun i hi hne => (h.own i hi).kept hg (by
    cases hb : (F i).ownBlock with
    | none => exact .inl rfl
    | some b =>
      refine .inr (fun e => ?_)
      exact h.apart i hi u hu hne b hb e.symm)
  have hset : ∀ {v : Value} {k : Nat} {zs : List Value}, w1.ownsRow base 42 8 v k zs → (w1.setCell ⟨BB, u, none⟩ (.slice (some ⟨gg, 0, none⟩) ((G u).length + 1) cap)).ownsRow base 42 8 v k zs := fun {v k zs} ho => ho.kept (gb_setCell _ _ _) (by
    cases hb : v.ownBlock with
    | none => exact .inl rfl
    | some b =>
      refine .inr (fun e => ?_)
      injection e with e
      have := (ho.lt b hb).1
      have : b = BB := e
      omega)
  refine ⟨hrow.set u _, fun i hi => ?_, fun i hi j hj hij b hb => ?_⟩
  · try dsimp only
    by_cases e : i = u
    · subst e
      rw [if_pos rfl, if_pos rfl]
      have := hset hown
      rw [List.length_append, List.flatMap_append]
      exact this
    · rw [if_neg e, if_neg e]
      exact hset (hkeep i hi e)
  · try dsimp only at hb
    try dsimp only
    by_cases e : i = u
    · subst e
      rw [if_pos rfl] at hb
      rw [if_neg (fun h => hij h.symm)]
      intro hc
      have hgb : gg = b := by injection hb
      subst hgb
      rcases hat with h1 | h1
      · exact h.apart i hi j hj hij gg h1 hc
      · have := (ownL_lt (h.own j hj) hc).2
        omega
    · rw [if_neg e] at hb
      by_cases e2 : j = u
      · subst e2
        rw [if_pos rfl]
        intro hc
        have hgb : gg = b := by injection hc
        subst hgb
        rcases hat with h1 | h1
        · exact h.apart i hi j hj hij gg hb h1
        · have := (ownL_lt (h.own i hi) hb).2
          omega
      · rw [if_neg e2]
        exact h.apart i hi j hj hij b hb
theorem LnF.nil {w : World} {base BB n : Nat} (h : w.rowIs BB 40 n (fun _ => .slice none 0 0)) : LnF w base BB n (fun _ => []) (fun _ => .slice none 0 0) :=
  ⟨h, fun u _ => World.ownsRow_nil _ _ _ _, fun u _ u' _ _ b hb => by cases hb⟩
def manOf (zs : List Int) (pl : Nat → Ln) (n K : Nat) (b t c : Nat) : Man :=
  let lines := (List.range K).map (fun (j : Nat) => sumLn (j : Int) (partTo zs pl n j))
  ⟨lines, sumLn K lines, b, t, c⟩
end Go.Proofs.YtojedplbhialpaaGreatDoor

/-! MS -/
namespace Go.Proofs.YtojedplbhialpaaGreatDoor
open Go.RowKit
set_option linter.unusedVariables false
set_option maxRecDepth 100000
theorem eq_line (x y : Ln) (w : World) : (Op.equalIn 10000 42 (lnA x) (lnA y)).run Tryz.prog w = .ok (decide (x = y)) w := by
  have u3 := Tryz.underlying3
  have a3 := Tryz.isAgg3
  have z3 := Tryz.sizeOf3
  have hS : Tryz.prog.underlying 42 = some (.struct (Tryz.prog.fieldsOf 42)) := by kernel_rfl
  have hp : Tryz.prog.stoodInHeld 42 = false := by kernel_rfl
  unfold lnA
  rw [show (10000 : Nat) = 9999 + 1 from rfl, run_equalIn_agg w 9999 42 _ _ hS hp]
  simp only [Program.fieldsOf, Tryz.underlying42]
  go_simp
  obtain ⟨x1, x2, x3, x4, x5, x6, x7, x8⟩ := x
  obtain ⟨y1, y2, y3, y4, y5, y6, y7, y8⟩ := y
  simp only [Ln.mk.injEq]
  repeat' split
  all_goals simp_all
theorem neq_line (x y : Ln) (w : World) : (binOp .neq 42 (lnA x) (lnA y)).run Tryz.prog w = .ok (.bool (!decide (x = y))) w := by
  unfold lnA
  rw [run_neq_struct]
  have h := eq_line x y w
  unfold lnA at h
  rw [h]; rfl
theorem eql_line (x y : Ln) (w : World) : (binOp .eql 42 (lnA x) (lnA y)).run Tryz.prog w = .ok (.bool (decide (x = y))) w := by
  unfold lnA
  rw [run_eql_struct]
  have h := eq_line x y w
  unfold lnA at h
  rw [h]; rfl
set_option maxHeartbeats 4000000 in
theorem equal_any (l r : List Ln) (v u : Value) (w : World) (hv : RdLns w v l) (hu : RdLns w u r) (hl : l.length ≤ 100000) (hr : r.length ≤ 100000) :
    Calls Tryz.prog 50 #[v, u] w fun e w' => e = .returned (.bool (decide (l = r))) ∧ ∃ n, w' = w.drewN n := by
  obtain ⟨a, ca, rfl, hva⟩ := hv
  obtain ⟨b, cb, rfl, hub⟩ := hu
  have HVA := Lib.hid hva
  have HUB := Lib.hid hub
  clear hva hub
  by_cases hlr : l.length = r.length
  · have d1 : ((l.length : Int) != (r.length : Int)) = false := by rw [hlr]; simp
    go_enter Tryz.func50, Tryz.ntmps50
    go_wp2
    go_loopw [13] (fun i wr => ∃ (k n : Nat), k ≤ l.length ∧ i = .int .i64 k ∧ wr = w.drewN n ∧ Hid (l.take k = r.take k)) (fun i _ => l.length - (intOf i).toNat)
    case atStart => exact ⟨0, 0, Nat.zero_le _, rfl, rfl, rfl⟩
    case round =>
      obtain ⟨k, n, hk, rfl, rfl, HT⟩ := hrel
      by_cases hlt : k < l.length
      · have hrt : k < r.length := by omega
        obtain ⟨g, off, rfl, hg, hc⟩ := HVA.out (by omega)
        obtain ⟨g', off', rfl, hg', hc'⟩ := HUB.out (by omega)
        have h1 := hc k hlt
        have h2 := hc' k hrt
        have hsl := List.take_succ_eq_append_getElem hlt
        have hsr := List.take_succ_eq_append_getElem hrt
        have hne : l[k] ≠ r[k] → l ≠ r := fun h e => h (by subst e; rfl)
        generalize l[k] = x at h1 hsl hne
        generalize r[k] = y at h2 hsr hne
        have HSL := Lib.hid hsl
        have HSR := Lib.hid hsr
        have HNE := Lib.hid hne
        have hq := neq_line x y
        unfold lnA at hq
        have c0 := h1 0 _ rfl
        have c1 := h1 1 _ rfl
        have c2 := h1 2 _ rfl
        have c3 := h1 3 _ rfl
        have c4 := h1 4 _ rfl
        have c5 := h1 5 _ rfl
        have c6 := h1 6 _ rfl
        have c7 := h1 7 _ rfl
        have e0 := h2 0 _ rfl
        have e1 := h2 1 _ rfl
        have e2 := h2 2 _ rfl
        have e3 := h2 3 _ rfl
        have e4 := h2 4 _ rfl
        have e5 := h2 5 _ rfl
        have e6 := h2 6 _ rfl
        have e7 := h2 7 _ rfl
        rw [Nat.add_zero] at c0 e0
        have d4 : decide ((k : Int) < (l.length : Int)) = true := decide_eq_true (by omega)
        have z1 : (0 : Int) ≤ (k : Int) := by omega
        have z2 : (k : Int) < (l.length : Int) := by omega
        have z3 : (k : Int) < (r.length : Int) := by omega
        clear hc hc' h1 h2 hsl hsr hne
        by_cases e : x = y
        · have dq : (!decide (x = y)) = false := by simp [e]
          simp only [dq] at hq
          clear dq
          have HE := Lib.hid e
          clear e
          go_wp2_with fail
          go_quiet (fail)
          go_wp2_with fail
          go_roundw
          case rel => exact ⟨k + 1, _, by omega, by go_num, rfl, by show _ = _; rw [HSL.out, HSR.out, HT.out, HE.out]⟩
          case measure => simp [intOf]; omega
        · have dq : (!decide (x = y)) = true := by simp [e]
          simp only [dq] at hq
          clear dq
          have HE := Lib.hid e
          clear e
          go_wp2_with fail
          go_quiet (fail)
          go_wp2_with fail
          go_ret
          have he := HNE.out HE.out
          exact ⟨by rw [decide_eq_false he]; rfl, _, by first | rfl | exact World.drewN_drewN _ _ _⟩
      · obtain rfl : k = l.length := by omega
        have he : l = r := by have := HT.out; rw [List.take_length, hlr, List.take_length] at this; exact this
        go_wp2_with fail
        go_ret
        exact ⟨by rw [decide_eq_true he]; rfl, _, rfl⟩
  · have d1 : ((l.length : Int) != (r.length : Int)) = true := by simp; omega
    go_enter Tryz.func50, Tryz.ntmps50
    go_wp2
    go_ret
    have he : l ≠ r := fun e => hlr (by rw [e])
    exact ⟨by rw [decide_eq_false he]; rfl, 0, rfl⟩
end Go.Proofs.YtojedplbhialpaaGreatDoor

/-! MR -/
namespace Go.Proofs.YtojedplbhialpaaGreatDoor
open Go.RowKit Go.Sort
set_option linter.unusedVariables false
set_option maxRecDepth 100000
abbrev sets12 (w : World) (g : Nat) (b0 b1 b2 b3 b4 b5 b6 b7 b8 b9 b10 b11 : Value) : World := ((((((((((((w.setCell ⟨g, 0, none⟩ b0).setCell ⟨g, 1, none⟩ b1).setCell ⟨g, 2, none⟩ b2).setCell ⟨g, 3, none⟩ b3).setCell ⟨g, 4, none⟩ b4).setCell ⟨g, 5, none⟩ b5).setCell ⟨g, 6, none⟩ b6).setCell ⟨g, 7, none⟩ b7).setCell ⟨g, 8, none⟩ b8).setCell ⟨g, 9, none⟩ b9).setCell ⟨g, 10, none⟩ b10).setCell ⟨g, 11, none⟩ b11)
theorem set12 {w : World} {g : Nat} {a0 a1 a2 a3 a4 a5 a6 a7 a8 a9 a10 a11 b0 b1 b2 b3 b4 b5 b6 b7 b8 b9 b10 b11 : Value} {t : TypeId} {fr : Nat × Nat} (h : w.heap[g]? = some (.cells #[a0, a1, a2, a3, a4, a5, a6, a7, a8, a9, a10, a11] t fr)) :
    (sets12 w g b0 b1 b2 b3 b4 b5 b6 b7 b8 b9 b10 b11).heap[g]? = some (.cells #[b0, b1, b2, b3, b4, b5, b6, b7, b8, b9, b10, b11] t fr) := by
  simp [sets12, World.setCell, Array.getElem?_modify, h]
theorem set12_below {B : Nat} {w w' : World} {g : Nat} {b0 b1 b2 b3 b4 b5 b6 b7 b8 b9 b10 b11 : Value} (h : Below B w w') (hg : B ≤ g) : Below B w (sets12 w' g b0 b1 b2 b3 b4 b5 b6 b7 b8 b9 b10 b11) :=
  ((((((((((((h.setCell (p := ⟨g, 0, none⟩) hg _).setCell (p := ⟨g, 1, none⟩) hg _).setCell (p := ⟨g, 2, none⟩) hg _).setCell (p := ⟨g, 3, none⟩) hg _).setCell (p := ⟨g, 4, none⟩) hg _).setCell (p := ⟨g, 5, none⟩) hg _).setCell (p := ⟨g, 6, none⟩) hg _).setCell (p := ⟨g, 7, none⟩) hg _).setCell (p := ⟨g, 8, none⟩) hg _).setCell (p := ⟨g, 9, none⟩) hg _).setCell (p := ⟨g, 10, none⟩) hg _).setCell (p := ⟨g, 11, none⟩) hg _)
theorem set12_gb (w : World) (g : Nat) (b0 b1 b2 b3 b4 b5 b6 b7 b8 b9 b10 b11 : Value) : w.grownBy (sets12 w g b0 b1 b2 b3 b4 b5 b6 b7 b8 b9 b10 b11) (some g) :=
  ((((((((((((gb_setCell w ⟨g, 0, none⟩ b0).trans (gb_setCell _ ⟨g, 1, none⟩ b1)).trans (gb_setCell _ ⟨g, 2, none⟩ b2)).trans (gb_setCell _ ⟨g, 3, none⟩ b3)).trans (gb_setCell _ ⟨g, 4, none⟩ b4)).trans (gb_setCell _ ⟨g, 5, none⟩ b5)).trans (gb_setCell _ ⟨g, 6, none⟩ b6)).trans (gb_setCell _ ⟨g, 7, none⟩ b7)).trans (gb_setCell _ ⟨g, 8, none⟩ b8)).trans (gb_setCell _ ⟨g, 9, none⟩ b9)).trans (gb_setCell _ ⟨g, 10, none⟩ b10)).trans (gb_setCell _ ⟨g, 11, none⟩ b11))
def noMan : Value := .agg #[.slice none 0 0, .int .i64 0, .int .i64 0, .int .i64 0, .int .i64 0, .int .i64 0, .int .i64 0, .int .i64 0, .int .i64 0, .int .i64 0, .int .i64 0, .int .i64 0]
def manO : Obj := .cells #[.slice none 0 0, .int .i64 0, .int .i64 0, .int .i64 0, .int .i64 0, .int .i64 0, .int .i64 0, .int .i64 0, .int .i64 0, .int .i64 0, .int .i64 0, .int .i64 0] 44
theorem four_new {w W : World} {A B C D : Obj} (h : W = (((w.alloc A).alloc B).alloc C).alloc D) : W.heap[w.heap.size]? = some A ∧ W.heap[w.heap.size + 1]? = some B ∧ W.heap[w.heap.size + 1 + 1]? = some C ∧ W.heap[w.heap.size + 1 + 1 + 1]? = some D ∧ W.heap.size = w.heap.size + 4 ∧ Below w.heap.size w W := by
  obtain ⟨a1, a2, a3, a4⟩ := two_new (w := w) (A := A) (B := B) rfl
  obtain ⟨b1, b2, b3, b4⟩ := two_new (w := (w.alloc A).alloc B) (A := C) (B := D) rfl
  rw [← h] at b1 b2 b3 b4
  rw [a3] at b1 b2 b3
  exact ⟨(b4.block _ (by omega)).trans a1, (b4.block _ (by omega)).trans a2, b1, b2, by omega, a4.trans (b4.mono (by omega))⟩
theorem own_mform {w : World} {base : Nat} {v : Value} {l : List Ln} (h : OwnsLn w base v l) : ∃ a n c, v = .slice a n c := by
  rcases Joins.ownsRow_forms h with ⟨rfl, _⟩ | ⟨g, cap, rfl⟩
  · exact ⟨_, _, _, rfl⟩
  · exact ⟨_, _, _, rfl⟩
theorem own_ne {v : Value} {B n g : Nat} (h : ∀ k, v.ownBlock = some k → B ≤ k ∧ k < n) (hg : g < B) : v.ownBlock = none ∨ v.ownBlock ≠ some g := by
  refine .inr (fun e => ?_)
  have := (h g e).1
  omega
set_option maxHeartbeats 8000000 in
/-- Where Pack returns an error. -/
theorem make_nopack {m : Mai} {k : Pck} {vr vz vl vp vn : Value} {E : Int} (w : World) (hvr : ∃ a n c, vr = .slice a n c) (hvz : ∃ a n c, vz = .slice a n c) (hvl : ∃ a n c, vl = .slice a n c) (hvp : ∃ a n c, vp = .slice a n c) (hvn : ∃ a n c, vn = .slice a n c) (hE : E ≠ 0)
    (hpk : ∀ W, Below w.heap.size w W → Calls Tryz.prog 18 #[vl, maiV m vp, vn, pckV k] W fun e w' => e = .returned (.tuple #[noLod, .int .i64 E]) ∧ Below W.heap.size W w') :
    Calls Tryz.prog 17 #[.agg #[vr, vz], vl, maiV m vp, vn, pckV k] w fun e w' => e = .returned (.tuple #[noMan, .int .i64 E]) ∧ Below w.heap.size w w' := by
  obtain ⟨ar, nr, cr, rfl⟩ := hvr
  obtain ⟨az, nz, cz, rfl⟩ := hvz
  obtain ⟨al, nl, cl, rfl⟩ := hvl
  obtain ⟨ap, np, cp, rfl⟩ := hvp
  obtain ⟨an, nn, cn, rfl⟩ := hvn
  have HPK := Lib.hid hpk
  have hq : (E != 0) = true := by simp [hE]
  obtain ⟨t1, t2, t3, t4, t5, t6⟩ := four_new (w := w) (A := .cells #[.slice ar nr cr, .slice az nz cz] 25) (B := .cells #[.int .u8 m.cls, .int .u8 m.ctr, .string m.origin, .slice ap np cp] 29) (C := .cells #[.int .i64 k.pieces, .int .i64 k.grams, .int .i64 k.bundles, .int .i64 k.trays] 32) (D := manO) rfl
  unfold manO at t1 t2 t3 t4 t5 t6
  obtain ⟨W0, hW0⟩ : ∃ W0, W0 = ((((w.alloc (.cells #[.slice ar nr cr, .slice az nz cz] 25)).alloc (.cells #[.int .u8 m.cls, .int .u8 m.ctr, .string m.origin, .slice ap np cp] 29)).alloc (.cells #[.int .i64 k.pieces, .int .i64 k.grams, .int .i64 k.bundles, .int .i64 k.trays] 32)).alloc (.cells #[.slice none 0 0, .int .i64 0, .int .i64 0, .int .i64 0, .int .i64 0, .int .i64 0, .int .i64 0, .int .i64 0, .int .i64 0, .int .i64 0, .int .i64 0, .int .i64 0] 44)) := ⟨_, rfl⟩
  rw [← hW0] at t1 t2 t3 t4 t5 t6
  have y0 := cell_of_row _ _ 0 _ _ _ t2
  have y1 := cell_of_row _ _ 1 _ _ _ t2
  have y2 := cell_of_row _ _ 2 _ _ _ t2
  have y3 := cell_of_row _ _ 3 _ _ _ t2
  have z0 := cell_of_row _ _ 0 _ _ _ t3
  have z1 := cell_of_row _ _ 1 _ _ _ t3
  have z2 := cell_of_row _ _ 2 _ _ _ t3
  have z3 := cell_of_row _ _ 3 _ _ _ t3
  have HT1 := Lib.hid t1
  have HT2 := Lib.hid t2
  have HT4 := Lib.hid t4
  have HT6 := Lib.hid t6
  have HW0 := Lib.hid hW0
  clear t1 t2 t3 t4 t6 hW0 hpk y0 y1 y2 y3 z0 z1 z2 z3 hE
  unfold maiV pckV at *
  go_enter Tryz.func17, Tryz.ntmps17
  go_wp2_with fail
  rw [← HW0.out]
  refine (HPK.out _ HT6.out).mono ?_
  rintro e w1 ⟨rfl, hb1⟩
  have q4 := (((hb1.alloc hb1.size (.cells #[.slice none 0 0, .slice none 0 0, .slice none 0 0] 39)).block (w.heap.size + 1 + 1 + 1) (by omega)).trans HT4.out)
  have HB1 := Lib.hid (below_c HT6.out HT6.out.size (hb1.alloc hb1.size (.cells #[.slice none 0 0, .slice none 0 0, .slice none 0 0] 39)))
  have f0 := not_frozen (j := 0) q4; have e0 := cell_of_row _ _ 0 _ _ _ q4; have f1 := not_frozen (j := 1) q4; have e1 := cell_of_row _ _ 1 _ _ _ q4; have f2 := not_frozen (j := 2) q4; have e2 := cell_of_row _ _ 2 _ _ _ q4; have f3 := not_frozen (j := 3) q4; have e3 := cell_of_row _ _ 3 _ _ _ q4; have f4 := not_frozen (j := 4) q4; have e4 := cell_of_row _ _ 4 _ _ _ q4; have f5 := not_frozen (j := 5) q4; have e5 := cell_of_row _ _ 5 _ _ _ q4; have f6 := not_frozen (j := 6) q4; have e6 := cell_of_row _ _ 6 _ _ _ q4; have f7 := not_frozen (j := 7) q4; have e7 := cell_of_row _ _ 7 _ _ _ q4; have f8 := not_frozen (j := 8) q4; have e8 := cell_of_row _ _ 8 _ _ _ q4; have f9 := not_frozen (j := 9) q4; have e9 := cell_of_row _ _ 9 _ _ _ q4; have f10 := not_frozen (j := 10) q4; have e10 := cell_of_row _ _ 10 _ _ _ q4; have f11 := not_frozen (j := 11) q4; have e11 := cell_of_row _ _ 11 _ _ _ q4
  have HQ4 := Lib.hid q4
  have hs1 := hb1.size
  clear q4 hb1
  unfold noLod
  go_wp2_with fail
  refine bodyPost_ret (results_cell_tmp rfl _ _ (w.heap.size + 1 + 1 + 1) _ rfl (run_loadVar_row _ _ _ _ _ _ _ (set12 HQ4.out) Tryz.underlying44 rfl (by kernel_rfl))) rfl ?_
  exact ⟨rfl, set12_below HB1.out (by omega)⟩
set_option maxHeartbeats 8000000 in
/-- Where all is right. -/
theorem make_ok {M : Man} {m : Mai} {k : Pck} {vr vz vl vp vn : Value} {nb nt nc : Nat} (w : World) (hvr : ∃ a n c, vr = .slice a n c) (hvz : ∃ a n c, vz = .slice a n c) (hvl : ∃ a n c, vl = .slice a n c) (hvp : ∃ a n c, vp = .slice a n c) (hvn : ∃ a n c, vn = .slice a n c)
    (hpk : ∀ W, Below w.heap.size w W → Calls Tryz.prog 18 #[vl, maiV m vp, vn, pckV k] W fun e w' => ∃ ab cb at' ct ac cc, e = .returned (.tuple #[.agg #[.slice ab nb cb, .slice at' nt ct, .slice ac nc cc], .int .i64 0]) ∧ Below W.heap.size W w')
    (hst : ∀ W ab cb at' ct ac cc, Below w.heap.size w W → Calls Tryz.prog 44 #[.agg #[vr, vz], vl, maiV m vp, vn, .agg #[.slice ab nb cb, .slice at' nt ct, .slice ac nc cc]] W fun e w' => ∃ v, e = .returned (.tuple #[manA M v, .int .i64 0]) ∧ Below W.heap.size W w' ∧ OwnsLn w' W.heap.size v M.lines) :
    Calls Tryz.prog 17 #[.agg #[vr, vz], vl, maiV m vp, vn, pckV k] w fun e w' => ∃ v, e = .returned (.tuple #[manA M v, .int .i64 0]) ∧ Below w.heap.size w w' ∧ OwnsLn w' w.heap.size v M.lines := by
  obtain ⟨ar, nr, cr, rfl⟩ := hvr
  obtain ⟨az, nz, cz, rfl⟩ := hvz
  obtain ⟨al, nl, cl, rfl⟩ := hvl
  obtain ⟨ap, np, cp, rfl⟩ := hvp
  obtain ⟨an, nn, cn, rfl⟩ := hvn
  have HPK := Lib.hid hpk
  have HST := Lib.hid hst
  obtain ⟨t1, t2, t3, t4, t5, t6⟩ := four_new (w := w) (A := .cells #[.slice ar nr cr, .slice az nz cz] 25) (B := .cells #[.int .u8 m.cls, .int .u8 m.ctr, .string m.origin, .slice ap np cp] 29) (C := .cells #[.int .i64 k.pieces, .int .i64 k.grams, .int .i64 k.bundles, .int .i64 k.trays] 32) (D := manO) rfl
  unfold manO at t1 t2 t3 t4 t5 t6
  obtain ⟨W0, hW0⟩ : ∃ W0, W0 = ((((w.alloc (.cells #[.slice ar nr cr, .slice az nz cz] 25)).alloc (.cells #[.int .u8 m.cls, .int .u8 m.ctr, .string m.origin, .slice ap np cp] 29)).alloc (.cells #[.int .i64 k.pieces, .int .i64 k.grams, .int .i64 k.bundles, .int .i64 k.trays] 32)).alloc (.cells #[.slice none 0 0, .int .i64 0, .int .i64 0, .int .i64 0, .int .i64 0, .int .i64 0, .int .i64 0, .int .i64 0, .int .i64 0, .int .i64 0, .int .i64 0, .int .i64 0] 44)) := ⟨_, rfl⟩
  rw [← hW0] at t1 t2 t3 t4 t5 t6
  have y0 := cell_of_row _ _ 0 _ _ _ t2
  have y1 := cell_of_row _ _ 1 _ _ _ t2
  have y2 := cell_of_row _ _ 2 _ _ _ t2
  have y3 := cell_of_row _ _ 3 _ _ _ t2
  have z0 := cell_of_row _ _ 0 _ _ _ t3
  have z1 := cell_of_row _ _ 1 _ _ _ t3
  have z2 := cell_of_row _ _ 2 _ _ _ t3
  have z3 := cell_of_row _ _ 3 _ _ _ t3
  have HT1 := Lib.hid t1
  have HT2 := Lib.hid t2
  have HT4 := Lib.hid t4
  have HT6 := Lib.hid t6
  have HW0 := Lib.hid hW0
  clear t1 t2 t3 t4 t6 hW0 hpk y0 y1 y2 y3 z0 z1 z2 z3 hst
  unfold maiV pckV at *
  go_enter Tryz.func17, Tryz.ntmps17
  go_wp2_with fail
  rw [← HW0.out]
  refine (HPK.out _ HT6.out).mono ?_
  rintro e w1 ⟨ab, cb, at', ct, ac, cc, rfl, hb1⟩
  obtain ⟨W2, hW2⟩ : ∃ W2, W2 = w1.alloc (.cells #[.slice ab nb cb, .slice at' nt ct, .slice ac nc cc] 39) := ⟨_, rfl⟩
  have hb2' : Below W0.heap.size W0 W2 := by rw [hW2]; exact hb1.alloc hb1.size _
  have q5 : W2.heap[w1.heap.size]? = some (.cells #[.slice ab nb cb, .slice at' nt ct, .slice ac nc cc] 39) := by rw [hW2]; exact alloc_new w1 _
  have q1 := (hb2'.block w.heap.size (by omega)).trans HT1.out
  have q2 := (hb2'.block (w.heap.size + 1) (by omega)).trans HT2.out
  have q4 := (hb2'.block (w.heap.size + 1 + 1 + 1) (by omega)).trans HT4.out
  have HQ4 := Lib.hid q4
  have HBX := Lib.hid (below_c HT6.out HT6.out.size hb2')
  have hs1 := hb1.size
  have hs2 := hb2'.size
  have hz2 : W2.heap.size = w1.heap.size + 1 := by rw [hW2]; simp
  have x0 := cell_of_row _ _ 0 _ _ _ q1
  have x1 := cell_of_row _ _ 1 _ _ _ q1
  have y0 := cell_of_row _ _ 0 _ _ _ q2
  have y1 := cell_of_row _ _ 1 _ _ _ q2
  have y2 := cell_of_row _ _ 2 _ _ _ q2
  have y3 := cell_of_row _ _ 3 _ _ _ q2
  have z0 := cell_of_row _ _ 0 _ _ _ q5
  have z1 := cell_of_row _ _ 1 _ _ _ q5
  have z2 := cell_of_row _ _ 2 _ _ _ q5
  have HW2 := Lib.hid hW2
  clear hW2 hb2' q1 q2 q4 q5 hb1
  go_upto_region 2 with fail
  rw [← HW2.out]
  go_wp2_with fail
  refine (HST.out _ _ _ _ _ _ _ HBX.out).mono ?_
  rintro e w3 ⟨v, rfl, hb2, ho⟩
  obtain ⟨av, nv, cv, rfl⟩ := own_mform ho
  have q4 := (hb2.block (w.heap.size + 1 + 1 + 1) (by omega)).trans HQ4.out
  have f0 := not_frozen (j := 0) q4; have e0 := cell_of_row _ _ 0 _ _ _ q4; have f1 := not_frozen (j := 1) q4; have e1 := cell_of_row _ _ 1 _ _ _ q4; have f2 := not_frozen (j := 2) q4; have e2 := cell_of_row _ _ 2 _ _ _ q4; have f3 := not_frozen (j := 3) q4; have e3 := cell_of_row _ _ 3 _ _ _ q4; have f4 := not_frozen (j := 4) q4; have e4 := cell_of_row _ _ 4 _ _ _ q4; have f5 := not_frozen (j := 5) q4; have e5 := cell_of_row _ _ 5 _ _ _ q4; have f6 := not_frozen (j := 6) q4; have e6 := cell_of_row _ _ 6 _ _ _ q4; have f7 := not_frozen (j := 7) q4; have e7 := cell_of_row _ _ 7 _ _ _ q4; have f8 := not_frozen (j := 8) q4; have e8 := cell_of_row _ _ 8 _ _ _ q4; have f9 := not_frozen (j := 9) q4; have e9 := cell_of_row _ _ 9 _ _ _ q4; have f10 := not_frozen (j := 10) q4; have e10 := cell_of_row _ _ 10 _ _ _ q4; have f11 := not_frozen (j := 11) q4; have e11 := cell_of_row _ _ 11 _ _ _ q4
  have HR4 := Lib.hid q4
  have HB2 := Lib.hid (below_c HBX.out HBX.out.size hb2)
  have HO := Lib.hid ho
  have hs3 := hb2.size
  clear q4 hb2 x0 x1 y0 y1 y2 y3 z0 z1 z2 ho
  unfold manA
  go_wp2_with fail
  refine bodyPost_ret (results_cell_tmp rfl _ _ (w.heap.size + 1 + 1 + 1) _ rfl (run_loadVar_row _ _ _ _ _ _ _ (set12 HR4.out) Tryz.underlying44 rfl (by kernel_rfl))) rfl ?_
  exact ⟨_, rfl, set12_below HB2.out (by omega), own_less (HO.out.kept (set12_gb _ _ _ _ _ _ _ _ _ _ _ _ _ _) (own_ne (HO.out.lt) (by omega))) (by omega)⟩
end Go.Proofs.YtojedplbhialpaaGreatDoor

/-! MS2 -/
namespace Go.Proofs.YtojedplbhialpaaGreatDoor
open Go.RowKit
set_option linter.unusedVariables false
set_option maxRecDepth 100000
set_option maxHeartbeats 4000000 in
theorem sameLines_any (l r : List Ln) (v u : Value) (w : World) (hv : RdLns w v l) (hu : RdLns w u r) (hl : l.length ≤ 100000) (hr : r.length ≤ 100000) :
    Calls Tryz.prog 59 #[v, u] w fun e w' => e = .returned (.bool (decide (l = r))) ∧ ∃ n, w' = w.drewN n := by
  obtain ⟨a, ca, rfl, hva⟩ := hv
  obtain ⟨b, cb, rfl, hub⟩ := hu
  have HVA := Lib.hid hva
  have HUB := Lib.hid hub
  clear hva hub
  by_cases hlr : l.length = r.length
  · have d1 : ((l.length : Int) != (r.length : Int)) = false := by rw [hlr]; simp
    go_enter Tryz.func59, Tryz.ntmps59
    go_wp2
    go_loopw [5] (fun i wr => ∃ (k n : Nat), k ≤ l.length ∧ i = .int .i64 k ∧ wr = w.drewN n ∧ Hid (l.take k = r.take k)) (fun i _ => l.length - (intOf i).toNat)
    case atStart => exact ⟨0, 0, Nat.zero_le _, rfl, rfl, rfl⟩
    case round =>
      obtain ⟨k, n, hk, rfl, rfl, HT⟩ := hrel
      by_cases hlt : k < l.length
      · have hrt : k < r.length := by omega
        obtain ⟨g, off, rfl, hg, hc⟩ := HVA.out (by omega)
        obtain ⟨g', off', rfl, hg', hc'⟩ := HUB.out (by omega)
        have h1 := hc k hlt
        have h2 := hc' k hrt
        have hsl := List.take_succ_eq_append_getElem hlt
        have hsr := List.take_succ_eq_append_getElem hrt
        have hne : l[k] ≠ r[k] → l ≠ r := fun h e => h (by subst e; rfl)
        generalize l[k] = x at h1 hsl hne
        generalize r[k] = y at h2 hsr hne
        have HSL := Lib.hid hsl
        have HSR := Lib.hid hsr
        have HNE := Lib.hid hne
        have hq := neq_line x y
        unfold lnA at hq
        have c0 := h1 0 _ rfl
        have c1 := h1 1 _ rfl
        have c2 := h1 2 _ rfl
        have c3 := h1 3 _ rfl
        have c4 := h1 4 _ rfl
        have c5 := h1 5 _ rfl
        have c6 := h1 6 _ rfl
        have c7 := h1 7 _ rfl
        have e0 := h2 0 _ rfl
        have e1 := h2 1 _ rfl
        have e2 := h2 2 _ rfl
        have e3 := h2 3 _ rfl
        have e4 := h2 4 _ rfl
        have e5 := h2 5 _ rfl
        have e6 := h2 6 _ rfl
        have e7 := h2 7 _ rfl
        rw [Nat.add_zero] at c0 e0
        have d4 : decide ((k : Int) < (l.length : Int)) = true := decide_eq_true (by omega)
        have z1 : (0 : Int) ≤ (k : Int) := by omega
        have z2 : (k : Int) < (l.length : Int) := by omega
        have z3 : (k : Int) < (r.length : Int) := by omega
        clear hc hc' h1 h2 hsl hsr hne
        by_cases e : x = y
        · have dq : (!decide (x = y)) = false := by simp [e]
          simp only [dq] at hq
          clear dq
          have HE := Lib.hid e
          clear e
          go_wp2_with fail
          go_quiet (fail)
          go_wp2_with fail
          go_roundw
          case rel => exact ⟨k + 1, _, by omega, by go_num, rfl, by show _ = _; rw [HSL.out, HSR.out, HT.out, HE.out]⟩
          case measure => simp [intOf]; omega
        · have dq : (!decide (x = y)) = true := by simp [e]
          simp only [dq] at hq
          clear dq
          have HE := Lib.hid e
          clear e
          go_wp2_with fail
          go_quiet (fail)
          go_wp2_with fail
          go_ret
          have he := HNE.out HE.out
          exact ⟨by rw [decide_eq_false he]; rfl, _, by first | rfl | exact World.drewN_drewN _ _ _⟩
      · obtain rfl : k = l.length := by omega
        have he : l = r := by have := HT.out; rw [List.take_length, hlr, List.take_length] at this; exact this
        go_wp2_with fail
        go_ret
        exact ⟨by rw [decide_eq_true he]; rfl, _, rfl⟩
  · have d1 : ((l.length : Int) != (r.length : Int)) = true := by simp; omega
    go_enter Tryz.func59, Tryz.ntmps59
    go_wp2
    go_ret
    have he : l ≠ r := fun e => hlr (by rw [e])
    exact ⟨by rw [decide_eq_false he]; rfl, 0, rfl⟩
theorem below_drewN {B : Nat} {w w' : World} {n : Nat} (h : Below B w w') : Below B w (w'.drewN n) := ⟨h.os, h.tape, h.output, h.size, h.block⟩
set_option maxHeartbeats 4000000 in
theorem sameMan_same (X : Man) (v u : Value) (w : World) (hv : RdLns w v X.lines) (hu : RdLns w u X.lines) (hl : X.lines.length ≤ 100000) :
    Calls Tryz.prog 21 #[manA X v, manA X u] w fun e w' => e = .returned (.bool true) ∧ Below w.heap.size w w' := by
  obtain ⟨t1, t2, t3, t4⟩ := two_new (w := w) (A := .cells #[v, .int .i64 X.total.level, .int .i64 X.total.pieces, .int .i64 X.total.barred, .int .i64 X.total.grams, .int .i64 X.total.base, .int .i64 X.total.bar, .int .i64 X.total.saved, .int .i64 X.total.cents, .int .i64 X.buns, .int .i64 X.tras, .int .i64 X.cons] 44) (B := .cells #[u, .int .i64 X.total.level, .int .i64 X.total.pieces, .int .i64 X.total.barred, .int .i64 X.total.grams, .int .i64 X.total.base, .int .i64 X.total.bar, .int .i64 X.total.saved, .int .i64 X.total.cents, .int .i64 X.buns, .int .i64 X.tras, .int .i64 X.cons] 44) rfl
  obtain ⟨W0, hW0⟩ : ∃ W0, W0 = (w.alloc (.cells #[v, .int .i64 X.total.level, .int .i64 X.total.pieces, .int .i64 X.total.barred, .int .i64 X.total.grams, .int .i64 X.total.base, .int .i64 X.total.bar, .int .i64 X.total.saved, .int .i64 X.total.cents, .int .i64 X.buns, .int .i64 X.tras, .int .i64 X.cons] 44)).alloc (.cells #[u, .int .i64 X.total.level, .int .i64 X.total.pieces, .int .i64 X.total.barred, .int .i64 X.total.grams, .int .i64 X.total.base, .int .i64 X.total.bar, .int .i64 X.total.saved, .int .i64 X.total.cents, .int .i64 X.buns, .int .i64 X.tras, .int .i64 X.cons] 44) := ⟨_, rfl⟩
  rw [← hW0] at t1 t2 t3 t4
  have hc := sameLines_any X.lines X.lines v u W0 (hv.below t4) (hu.below t4) hl hl
  rw [decide_eq_true rfl] at hc
  have HC := Lib.hid hc
  have he := eql_line X.total X.total
  rw [decide_eq_true rfl] at he
  unfold lnA at he
  obtain ⟨av, cv, rfl, _⟩ := hv
  obtain ⟨au, cu, rfl, _⟩ := hu
  have a0 := cell_of_row _ _ 0 _ _ _ t1
  have b0 := cell_of_row _ _ 0 _ _ _ t2
  have a1 := cell_of_row _ _ 1 _ _ _ t1
  have b1 := cell_of_row _ _ 1 _ _ _ t2
  have a2 := cell_of_row _ _ 2 _ _ _ t1
  have b2 := cell_of_row _ _ 2 _ _ _ t2
  have a3 := cell_of_row _ _ 3 _ _ _ t1
  have b3 := cell_of_row _ _ 3 _ _ _ t2
  have a4 := cell_of_row _ _ 4 _ _ _ t1
  have b4 := cell_of_row _ _ 4 _ _ _ t2
  have a5 := cell_of_row _ _ 5 _ _ _ t1
  have b5 := cell_of_row _ _ 5 _ _ _ t2
  have a6 := cell_of_row _ _ 6 _ _ _ t1
  have b6 := cell_of_row _ _ 6 _ _ _ t2
  have a7 := cell_of_row _ _ 7 _ _ _ t1
  have b7 := cell_of_row _ _ 7 _ _ _ t2
  have a8 := cell_of_row _ _ 8 _ _ _ t1
  have b8 := cell_of_row _ _ 8 _ _ _ t2
  have a9 := cell_of_row _ _ 9 _ _ _ t1
  have b9 := cell_of_row _ _ 9 _ _ _ t2
  have a10 := cell_of_row _ _ 10 _ _ _ t1
  have b10 := cell_of_row _ _ 10 _ _ _ t2
  have a11 := cell_of_row _ _ 11 _ _ _ t1
  have b11 := cell_of_row _ _ 11 _ _ _ t2
  have HW0 := Lib.hid hW0
  have HT4 := Lib.hid t4
  clear hc hW0 t1 t2 t3 t4
  unfold manA
  go_enter Tryz.func21, Tryz.ntmps21
  go_wp2_with fail
  rw [← HW0.out]
  refine HC.out.mono ?_
  rintro e w1 ⟨rfl, n, rfl⟩
  go_wp2_with fail
  go_ret
  exact ⟨by simp, below_drewN HT4.out⟩
end Go.Proofs.YtojedplbhialpaaGreatDoor

/-! MZ -/
namespace Go.Proofs.YtojedplbhialpaaGreatDoor
open Go.RowKit Go.Sort
set_option linter.unusedVariables false
set_option maxRecDepth 100000
theorem five_new {w W : World} {A B C D E : Obj} (h : W = ((((w.alloc A).alloc B).alloc C).alloc D).alloc E) : W.heap[w.heap.size]? = some A ∧ W.heap[w.heap.size + 1]? = some B ∧ W.heap[w.heap.size + 1 + 1]? = some C ∧ W.heap[w.heap.size + 1 + 1 + 1]? = some D ∧ W.heap[w.heap.size + 1 + 1 + 1 + 1]? = some E ∧ W.heap.size = w.heap.size + 5 ∧ Below w.heap.size w W := by
  obtain ⟨a1, a2, a3, a4, a5, a6⟩ := four_new (w := w) (A := A) (B := B) (C := C) (D := D) rfl
  have hb := (Below.refl _ ((((w.alloc A).alloc B).alloc C).alloc D)).alloc (Nat.le_refl _) E
  have hn := alloc_new ((((w.alloc A).alloc B).alloc C).alloc D) E
  rw [← h] at hb hn
  rw [a5] at hn
  exact ⟨(hb.block _ (by omega)).trans a1, (hb.block _ (by omega)).trans a2, (hb.block _ (by omega)).trans a3, (hb.block _ (by omega)).trans a4, hn, by rw [h, World.size_alloc, a5], a6.trans (hb.mono (by omega))⟩
set_option maxHeartbeats 32000000 in
theorem reconcile_ok {X : Man} {m : Mai} {k : Pck} {vr vz vl vp vn vb vt vc vx : Value} {nb nt nc : Nat} {M : Man} {b : Bool} (w : World) (hvr : ∃ a n c, vr = .slice a n c) (hvz : ∃ a n c, vz = .slice a n c) (hvl : ∃ a n c, vl = .slice a n c) (hvp : ∃ a n c, vp = .slice a n c) (hvn : ∃ a n c, vn = .slice a n c) (hvb : ∃ a c, vb = .slice a nb c) (hvt : ∃ a c, vt = .slice a nt c) (hvc : ∃ a c, vc = .slice a nc c) (hx : RdLns w vx X.lines) (hlM : M.lines.length ≤ 100000) (hlX : X.lines.length ≤ 100000)
    (hck : ∀ W, Below w.heap.size w W → Calls Tryz.prog 49 #[vl, maiV m vp, vn, pckV k, .agg #[vb, vt, vc]] W fun e w' => e = .returned (.tuple #[.bool b, .int .i64 0]) ∧ Below W.heap.size W w')
    (hst : ∀ W, Below w.heap.size w W → Calls Tryz.prog 44 #[.agg #[vr, vz], vl, maiV m vp, vn, .agg #[vb, vt, vc]] W fun e w' => ∃ v, e = .returned (.tuple #[manA M v, .int .i64 0]) ∧ Below W.heap.size W w' ∧ OwnsLn w' W.heap.size v M.lines) :
    Calls Tryz.prog 19 #[.agg #[vr, vz], vl, maiV m vp, vn, pckV k, .agg #[vb, vt, vc], manA X vx] w fun e w' => e = .returned (.tuple #[.bool (b && (decide (M.total = X.total) && decide (M.lines = X.lines)) && (decide (M.buns = X.buns) && decide (M.tras = X.tras) && decide (M.cons = X.cons))), .int .i64 0]) ∧ Below w.heap.size w w' := by
  have HST := Lib.hid hst
  obtain ⟨ar, nr, cr, rfl⟩ := hvr
  obtain ⟨az, nz, cz, rfl⟩ := hvz
  obtain ⟨al, nl, cl, rfl⟩ := hvl
  obtain ⟨ap, np, cp, rfl⟩ := hvp
  obtain ⟨an, nn, cn, rfl⟩ := hvn
  obtain ⟨ab, cb, rfl⟩ := hvb
  obtain ⟨at', ct, rfl⟩ := hvt
  obtain ⟨ac, cc, rfl⟩ := hvc
  have HX := Lib.hid hx
  obtain ⟨ax, cx, rfl, _⟩ := hx
  have HCK := Lib.hid hck
  obtain ⟨W0, hW0⟩ : ∃ W0, W0 = (((((w.alloc (.cells #[.slice ar nr cr, .slice az nz cz] 25)).alloc (.cells #[.int .u8 m.cls, .int .u8 m.ctr, .string m.origin, .slice ap np cp] 29)).alloc (.cells #[.int .i64 k.pieces, .int .i64 k.grams, .int .i64 k.bundles, .int .i64 k.trays] 32)).alloc (.cells #[.slice ab nb cb, .slice at' nt ct, .slice ac nc cc] 39)).alloc (.cells #[.slice ax X.lines.length cx, .int .i64 X.total.level, .int .i64 X.total.pieces, .int .i64 X.total.barred, .int .i64 X.total.grams, .int .i64 X.total.base, .int .i64 X.total.bar, .int .i64 X.total.saved, .int .i64 X.total.cents, .int .i64 X.buns, .int .i64 X.tras, .int .i64 X.cons] 44)) := ⟨_, rfl⟩
  obtain ⟨t1, t2, t3, t4, t5, t6, t7⟩ := five_new hW0
  have HT1 := Lib.hid t1
  have HT2 := Lib.hid t2
  have HT4 := Lib.hid t4
  have HT5 := Lib.hid t5
  have HT7 := Lib.hid t7
  have HW0 := Lib.hid hW0
  clear t1 t2 t3 t4 t5 t7 hW0 hck hst
  unfold manA
  unfold maiV pckV at *
  go_enter Tryz.func19, Tryz.ntmps19
  go_wp2_with fail
  rw [← HW0.out]
  refine (HCK.out _ HT7.out).mono ?_
  rintro e w1 ⟨rfl, hb1⟩
  have q1 := (hb1.block w.heap.size (by omega)).trans HT1.out
  have q2 := (hb1.block (w.heap.size + 1) (by omega)).trans HT2.out
  have q4 := (hb1.block (w.heap.size + 1 + 1 + 1) (by omega)).trans HT4.out
  have q5 := (hb1.block (w.heap.size + 1 + 1 + 1 + 1) (by omega)).trans HT5.out
  have HB1 := Lib.hid (below_c HT7.out HT7.out.size hb1)
  have hs1 := hb1.size
  have Q5 := Lib.hid q5
  have x0 := cell_of_row _ _ 0 _ _ _ q1
  have x1 := cell_of_row _ _ 1 _ _ _ q1
  have y0 := cell_of_row _ _ 0 _ _ _ q2
  have y1 := cell_of_row _ _ 1 _ _ _ q2
  have y2 := cell_of_row _ _ 2 _ _ _ q2
  have y3 := cell_of_row _ _ 3 _ _ _ q2
  have z0 := cell_of_row _ _ 0 _ _ _ q4
  have z1 := cell_of_row _ _ 1 _ _ _ q4
  have z2 := cell_of_row _ _ 2 _ _ _ q4
  clear hb1 q1 q2 q4 q5
  go_wp2_with fail
  refine (HST.out _ HB1.out).mono ?_
  rintro e w2 ⟨v, rfl, hb2, ho⟩
  have hrm := OwnsLn.rd ho
  obtain ⟨av, cv, rfl, _⟩ := id hrm
  obtain ⟨W3, hW3⟩ : ∃ W3, W3 = w2.alloc (.cells #[.slice av M.lines.length cv, .int .i64 M.total.level, .int .i64 M.total.pieces, .int .i64 M.total.barred, .int .i64 M.total.grams, .int .i64 M.total.base, .int .i64 M.total.bar, .int .i64 M.total.saved, .int .i64 M.total.cents, .int .i64 M.buns, .int .i64 M.tras, .int .i64 M.cons] 44) := ⟨_, rfl⟩
  have hb3 : Below w2.heap.size w2 W3 := by rw [hW3]; exact (Below.refl _ w2).alloc (Nat.le_refl _) _
  have q6 : W3.heap[w2.heap.size]? = some (.cells #[.slice av M.lines.length cv, .int .i64 M.total.level, .int .i64 M.total.pieces, .int .i64 M.total.barred, .int .i64 M.total.grams, .int .i64 M.total.base, .int .i64 M.total.bar, .int .i64 M.total.saved, .int .i64 M.total.cents, .int .i64 M.buns, .int .i64 M.tras, .int .i64 M.cons] 44) := by rw [hW3]; exact alloc_new w2 _
  have hb13 := below_c hb2 hb2.size hb3
  have q5 := (hb13.block (w.heap.size + 1 + 1 + 1 + 1) (by omega)).trans Q5.out
  have HB3 := Lib.hid (below_c HB1.out HB1.out.size hb13)
  have heq := equal_any M.lines X.lines (.slice av M.lines.length cv) (.slice ax X.lines.length cx) W3 (hrm.below hb3) (HX.out.below HB3.out) hlM hlX
  have hq := eql_line M.total X.total
  unfold lnA at hq
  have hs2 := hb2.size
  have hs3 := hb3.size
  have g0 := cell_of_row _ _ 0 _ _ _ q5
  have h0 := cell_of_row _ _ 0 _ _ _ q6
  have g1 := cell_of_row _ _ 1 _ _ _ q5
  have h1 := cell_of_row _ _ 1 _ _ _ q6
  have g2 := cell_of_row _ _ 2 _ _ _ q5
  have h2 := cell_of_row _ _ 2 _ _ _ q6
  have g3 := cell_of_row _ _ 3 _ _ _ q5
  have h3 := cell_of_row _ _ 3 _ _ _ q6
  have g4 := cell_of_row _ _ 4 _ _ _ q5
  have h4 := cell_of_row _ _ 4 _ _ _ q6
  have g5 := cell_of_row _ _ 5 _ _ _ q5
  have h5 := cell_of_row _ _ 5 _ _ _ q6
  have g6 := cell_of_row _ _ 6 _ _ _ q5
  have h6 := cell_of_row _ _ 6 _ _ _ q6
  have g7 := cell_of_row _ _ 7 _ _ _ q5
  have h7 := cell_of_row _ _ 7 _ _ _ q6
  have g8 := cell_of_row _ _ 8 _ _ _ q5
  have h8 := cell_of_row _ _ 8 _ _ _ q6
  have g9 := cell_of_row _ _ 9 _ _ _ q5
  have h9 := cell_of_row _ _ 9 _ _ _ q6
  have g10 := cell_of_row _ _ 10 _ _ _ q5
  have h10 := cell_of_row _ _ 10 _ _ _ q6
  have g11 := cell_of_row _ _ 11 _ _ _ q5
  have h11 := cell_of_row _ _ 11 _ _ _ q6
  obtain ⟨bt, hbt⟩ : ∃ x, x = decide (M.total = X.total) := ⟨_, rfl⟩
  obtain ⟨bl, hbl⟩ : ∃ x, x = decide (M.lines = X.lines) := ⟨_, rfl⟩
  obtain ⟨e1, he1⟩ : ∃ x, x = decide (M.buns = X.buns) := ⟨_, rfl⟩
  obtain ⟨e2, he2⟩ : ∃ x, x = decide (M.tras = X.tras) := ⟨_, rfl⟩
  obtain ⟨e3, he3⟩ : ∃ x, x = decide (M.cons = X.cons) := ⟨_, rfl⟩
  rw [← hbt] at hq
  rw [← hbl] at heq
  have k1 : (M.buns == X.buns) = e1 := by rw [he1]; rfl
  have k2 : (M.tras == X.tras) = e2 := by rw [he2]; rfl
  have k3 : (M.cons == X.cons) = e3 := by rw [he3]; rfl
  have HBT := Lib.hid hbt
  have HBL := Lib.hid hbl
  have HE1 := Lib.hid he1
  have HE2 := Lib.hid he2
  have HE3 := Lib.hid he3
  have HEQ := Lib.hid heq
  have HW3 := Lib.hid hW3
  unfold manA
  go_upto_region 5 with fail
  rw [← HW3.out]
  clear hbt hbl he1 he2 he3
  clear heq hW3 hb2 hb3 hb13 q5 q6 ho hrm x0 x1 y0 y1 y2 y3 z0 z1 z2 HST HCK hlM hlX
  cases b
  case' false => cases bt
  case' true => cases bt
  case' true.true => cases bl
  all_goals
    cases e1
    case' true => cases e2
    all_goals
      go_wp2_with (go_at_call 50; refine HEQ.out.mono ?_; rintro e w4 ⟨rfl, n4, rfl⟩)
      go_ret2
      rw [← HBT.out, ← HBL.out, ← HE1.out, ← HE2.out, ← HE3.out]
      first | exact ⟨by simp, HB3.out⟩ | exact ⟨by simp, below_drewN HB3.out⟩
end Go.Proofs.YtojedplbhialpaaGreatDoor

/-! M4 -/
namespace Go.Proofs.YtojedplbhialpaaGreatDoor
open Go.RowKit Go.Sort
set_option linter.unusedVariables false
set_option maxRecDepth 100000
def exT : Tar := ⟨[⟨1, [⟨20, [100, 150]⟩, ⟨50, [120, 200]⟩], 10⟩], [⟨⟨#[]⟩, ⟨#[]⟩, 2⟩, ⟨⟨#[49]⟩, ⟨#[49]⟩, 1⟩]⟩
theorem rd_ints_block {W : World} {g : Nat} {zs : List Int} (h : W.heap[g]? = some (.cells (zs.map (Value.int .i64)).toArray 3)) : RdInts W (.slice (some ⟨g, 0, none⟩) zs.length zs.length) zs :=
  ⟨_, _, rfl, fun _ => ⟨g, 0, rfl, (Array.getElem?_eq_some_iff.1 h).1, fun i hi => by
    rw [Nat.zero_add, cell_of_row _ _ i _ _ _ h]
    simp [hi]⟩⟩
theorem exT_reads {W : World} {g : Nat} (h1 : W.heap[g + 1]? = some (.cells #[.int .i64 100, .int .i64 150] 3)) (h2 : W.heap[g + 1 + 1]? = some (.cells #[.int .i64 120, .int .i64 200] 3))
    (h3 : W.heap[g + 1 + 1 + 1]? = some (.cells #[.int .i64 20, .slice (some ⟨g + 1, 0, none⟩) 2 2, .int .i64 50, .slice (some ⟨g + 1 + 1, 0, none⟩) 2 2] 95))
    (h4 : W.heap[g + 1 + 1 + 1 + 1]? = some (.cells #[.int .u8 1, .slice (some ⟨g + 1 + 1 + 1, 0, none⟩) 2 2, .int .i64 10] 98))
    (h5 : W.heap[g + 1 + 1 + 1 + 1 + 1]? = some (.cells #[.string ⟨#[]⟩, .string ⟨#[]⟩, .int .i64 2, .string ⟨#[49]⟩, .string ⟨#[49]⟩, .int .i64 1] 100)) :
    RdTar W (.slice (some ⟨g + 1 + 1 + 1 + 1, 0, none⟩) 1 1) (.slice (some ⟨g + 1 + 1 + 1 + 1 + 1, 0, none⟩) 2 2) exT := by
  have l3 := (Array.getElem?_eq_some_iff.1 h3).1
  have l4 := (Array.getElem?_eq_some_iff.1 h4).1
  have l5 := (Array.getElem?_eq_some_iff.1 h5).1
  have i1 : RdInts W (.slice (some ⟨g + 1, 0, none⟩) 2 2) [100, 150] := rd_ints_block (zs := [100, 150]) h1
  have i2 : RdInts W (.slice (some ⟨g + 1 + 1, 0, none⟩) 2 2) [120, 200] := rd_ints_block (zs := [120, 200]) h2
  refine ⟨⟨_, _, rfl, fun _ => ⟨_, 0, rfl, l4, fun i hi => ?_⟩⟩, ⟨_, _, rfl, fun _ => ⟨_, 0, rfl, l5, fun i hi => ?_⟩⟩⟩
  · have : i = 0 := by have h : i < 1 := hi; omega
    subst this
    refine ⟨.slice (some ⟨g + 1 + 1 + 1, 0, none⟩) 2 2, ⟨_, _, rfl, fun _ => ⟨_, 0, rfl, l3, fun j hj => ?_⟩⟩, cell_of_row _ _ 0 _ _ _ h4, cell_of_row _ _ 1 _ _ _ h4, cell_of_row _ _ 2 _ _ _ h4⟩
    have hj2 : j < 2 := hj
    match j, hj2 with
    | 0, _ => exact ⟨_, i1, fun q u hq => by
        rw [cell_of_row _ _ _ _ _ _ h3]
        match q, hq with
        | 0, hq => exact hq
        | 1, hq => exact hq
        | q + 2, hq => simp [stpCell] at hq⟩
    | 1, _ => exact ⟨_, i2, fun q u hq => by
        rw [cell_of_row _ _ _ _ _ _ h3]
        match q, hq with
        | 0, hq => exact hq
        | 1, hq => exact hq
        | q + 2, hq => simp [stpCell] at hq⟩
  · have hi2 : i < 2 := hi
    match i, hi2 with
    | 0, _ => exact ⟨cell_of_row _ _ 0 _ _ _ h5, cell_of_row _ _ 1 _ _ _ h5, cell_of_row _ _ 2 _ _ _ h5⟩
    | 1, _ => exact ⟨cell_of_row _ _ 3 _ _ _ h5, cell_of_row _ _ 4 _ _ _ h5, cell_of_row _ _ 5 _ _ _ h5⟩
theorem six_new {w W : World} {A B C D E F : Obj} (h : W = (((((w.alloc A).alloc B).alloc C).alloc D).alloc E).alloc F) : W.heap[w.heap.size]? = some A ∧ W.heap[w.heap.size + 1]? = some B ∧ W.heap[w.heap.size + 1 + 1]? = some C ∧ W.heap[w.heap.size + 1 + 1 + 1]? = some D ∧ W.heap[w.heap.size + 1 + 1 + 1 + 1]? = some E ∧ W.heap[w.heap.size + 1 + 1 + 1 + 1 + 1]? = some F ∧ W.heap.size = w.heap.size + 6 ∧ Below w.heap.size w W := by
  obtain ⟨a1, a2, a3, a4, a5, a6, a7⟩ := five_new (w := w) (A := A) (B := B) (C := C) (D := D) (E := E) rfl
  have hb := (Below.refl _ (((((w.alloc A).alloc B).alloc C).alloc D).alloc E)).alloc (Nat.le_refl _) F
  have hn := alloc_new (((((w.alloc A).alloc B).alloc C).alloc D).alloc E) F
  rw [← h] at hb hn
  rw [a6] at hn
  exact ⟨(hb.block _ (by omega)).trans a1, (hb.block _ (by omega)).trans a2, (hb.block _ (by omega)).trans a3, (hb.block _ (by omega)).trans a4, (hb.block _ (by omega)).trans a5, hn, by rw [h, World.size_alloc, a6], a7.trans (hb.mono (by omega))⟩
set_option maxHeartbeats 4000000 in
theorem example24_any (w : World) : Calls Tryz.prog 12 #[] w fun e w' => ∃ vr vz, e = .returned (.agg #[vr, vz]) ∧ Below w.heap.size w w' ∧ RdTar w' vr vz exT := by
  go_enter Tryz.func12, Tryz.ntmps12
  go_wp2_with fail
  obtain ⟨t0, t1, t2, t3, t4, t5, t6, t7⟩ := six_new (w := w) (A := .cells #[.slice (some ⟨w.heap.size + 1 + 1 + 1 + 1, 0, none⟩) 1 1, .slice (some ⟨w.heap.size + 1 + 1 + 1 + 1 + 1, 0, none⟩) 2 2] 25) (B := .cells #[.int .i64 100, .int .i64 150] 3) (C := .cells #[.int .i64 120, .int .i64 200] 3)
    (D := .cells #[.int .i64 20, .slice (some ⟨w.heap.size + 1, 0, none⟩) 2 2, .int .i64 50, .slice (some ⟨w.heap.size + 1 + 1, 0, none⟩) 2 2] 95) (E := .cells #[.int .u8 1, .slice (some ⟨w.heap.size + 1 + 1 + 1, 0, none⟩) 2 2, .int .i64 10] 98)
    (F := .cells #[.string ⟨#[]⟩, .string ⟨#[]⟩, .int .i64 2, .string ⟨#[49]⟩, .string ⟨#[49]⟩, .int .i64 1] 100) rfl
  refine bodyPost_ret (results_cell_row rfl _ _ w.heap.size 25 _ (0, 0) _ rfl t0 Tryz.underlying25 rfl (by kernel_rfl)) rfl ?_
  exact ⟨_, _, rfl, t7, exT_reads t1 t2 t3 t4 t5⟩
end Go.Proofs.YtojedplbhialpaaGreatDoor
