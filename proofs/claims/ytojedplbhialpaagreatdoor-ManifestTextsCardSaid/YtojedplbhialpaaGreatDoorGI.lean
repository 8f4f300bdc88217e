import Derived.Test.YtojedplbhialpaaGreatDoorGE
import Derived.Lib.QuietBelow
import Derived.StillTailTactics
import Derived.Deep.AppendLies
import Derived.Deep.RegionLaw
import Derived.BigQuiet
import Derived.BigRegion
/-! TB -/
namespace Go.Proofs.YtojedplbhialpaaGreatDoor
open Go.RowKit Go.Sort
set_option linter.unusedVariables false
set_option linter.unusedSimpArgs false
set_option maxRecDepth 100000
theorem cells_in {w : World} {a : Addr} {v : Value} (h : w.cell? a = some v) : ∀ p : Regrown, (grow (redrawn w p.d) p.os).cell? a = some v := fun p => cell_regrown h p.d p.os
theorem below_in (w : World) (p : Regrown) : Below w.heap.size w (grow (redrawn w p.d) p.os) := below_regrown w p.d p.os
def filC (lvl : Int) (nm : ByteArray) (u : Value) (gr : Int) (k : Pck) : Obj := .cells #[.int .i64 lvl, .string nm, u, .int .i64 gr, .int .i64 k.pieces, .int .i64 k.grams, .int .i64 k.bundles, .int .i64 k.trays] 174 (0, 0)
def pceV (p : Pce) : Value := .agg #[.int .i64 p.id, .int .i64 p.point, .string p.code, .int .i64 p.grams, .bool p.barred]
theorem cells8 {w : World} {g : Nat} {a0 a1 a2 a3 a4 a5 a6 a7 : Value} {t : TypeId} {fr : Nat × Nat} (h : w.heap[g]? = some (.cells #[a0, a1, a2, a3, a4, a5, a6, a7] t fr)) :
    w.cell? ⟨g, 0, none⟩ = some a0 ∧ w.cell? ⟨g, 1, none⟩ = some a1 ∧ w.cell? ⟨g, 2, none⟩ = some a2 ∧ w.cell? ⟨g, 3, none⟩ = some a3 ∧ w.cell? ⟨g, 4, none⟩ = some a4 ∧ w.cell? ⟨g, 5, none⟩ = some a5 ∧ w.cell? ⟨g, 6, none⟩ = some a6 ∧ w.cell? ⟨g, 7, none⟩ = some a7 :=
  ⟨cell_of_row _ _ 0 _ _ _ h, cell_of_row _ _ 1 _ _ _ h, cell_of_row _ _ 2 _ _ _ h, cell_of_row _ _ 3 _ _ _ h, cell_of_row _ _ 4 _ _ _ h, cell_of_row _ _ 5 _ _ _ h, cell_of_row _ _ 6 _ _ _ h, cell_of_row _ _ 7 _ _ _ h⟩
set_option maxHeartbeats 8000000 in
theorem takes_any {F n c : Nat} {a : Option Addr} {lvl gr : Int} {nm : ByteArray} {k : Pck} {p : Pce} {w : World} (h : w.heap[F]? = some (filC lvl nm (.slice a n c) gr k)) (hn : n ≤ 1000000) (hg : 0 ≤ gr ∧ gr ≤ 100000000) (hp : 0 ≤ p.grams ∧ p.grams ≤ 100000) :
    Calls Tryz.prog 103 #[.pointer (some ⟨F, 0, none⟩), pceV p] w fun e w' => e = .returned (.bool (decide ((n : Int) < k.pieces) && decide (gr + p.grams ≤ k.grams))) ∧ Below w.heap.size w w' := by
  obtain ⟨id, pt, code, g, bd⟩ := p
  unfold pceV
  dsimp only at *
  have hF : F < w.heap.size := (Array.getElem?_eq_some_iff.1 h).1
  obtain ⟨w0, hw0⟩ : ∃ w0, w0 = w.alloc (.cells #[.int .i64 id, .int .i64 pt, .string code, .int .i64 g, .bool bd] 90) := ⟨_, rfl⟩
  have hb0 : Below w.heap.size w w0 := by rw [hw0]; exact (Below.refl _ w).alloc (Nat.le_refl _) _
  have h0 : w0.heap[F]? = some (filC lvl nm (.slice a n c) gr k) := (hb0.block _ hF).trans h
  unfold filC at h0
  obtain ⟨c0, c1, c2, c3, c4, c5, c6, c7⟩ := cells8 h0
  have p3 : w0.cell? ⟨w.heap.size, 3, none⟩ = some (.int .i64 g) := by
    rw [hw0]; exact cell_of_row _ _ 3 _ _ _ (alloc_new w _)
  have C2 := cells_in c2
  have C3 := cells_in c3
  have C4 := cells_in c4
  have C5 := cells_in c5
  have P3 := cells_in p3
  obtain ⟨kp, hkp⟩ : ∃ z, z = k.pieces := ⟨_, rfl⟩
  obtain ⟨kg, hkg⟩ : ∃ z, z = k.grams := ⟨_, rfl⟩
  rw [← hkp] at C4 ⊢
  rw [← hkg] at C5 ⊢
  have HW0 := Lib.hid hw0
  have HB0 := Lib.hid hb0
  clear hkp hkg h h0 c0 c1 c2 c3 c4 c5 c6 c7 p3 hw0 hb0
  by_cases q1 : (n : Int) < kp
  · have d1 : decide ((n : Int) < kp) = true := decide_eq_true q1
    by_cases q2 : gr + g ≤ kg
    all_goals
      first
        | have d2 : decide (gr + g ≤ kg) = true := decide_eq_true q2
        | have d2 : decide (gr + g ≤ kg) = false := decide_eq_false q2
      go_enter Tryz.func103, Tryz.ntmps103
      go_upto_region 1 with fail
      rw [← HW0.out]
      refine wp_region_quiet_below (by kernel_rfl) (by kernel_rfl) ?_
      repeat (go_big_quiet_step (fail))
      refine wpQuiet_nil ?_
      intro _ hw'
      obtain ⟨pp, hw''⟩ := hw'
      subst hw''
      go_wp2_with fail
      go_ret
      exact ⟨by simp [d1, d2], HB0.out.trans ((below_in w0 pp).mono HB0.out.size)⟩
  · have d1 : decide ((n : Int) < kp) = false := decide_eq_false q1
    go_enter Tryz.func103, Tryz.ntmps103
    go_upto_region 1 with fail
    rw [← HW0.out]
    refine wp_region_quiet_below (by kernel_rfl) (by kernel_rfl) ?_
    repeat (go_big_quiet_step (fail))
    refine wpQuiet_nil ?_
    intro _ hw'
    obtain ⟨pp, hw''⟩ := hw'
    subst hw''
    go_wp2_with fail
    go_ret
    exact ⟨by simp [d1], HB0.out.trans ((below_in w0 pp).mono HB0.out.size)⟩
theorem fil_set {w : World} {F : Nat} {lvl gr gr' : Int} {nm : ByteArray} {u u' : Value} {k : Pck} (h : w.heap[F]? = some (filC lvl nm u gr k)) :
    (w.setCell ⟨F, 2, none⟩ u').heap[F]? = some (filC lvl nm u' gr k) ∧ (w.setCell ⟨F, 3, none⟩ (.int .i64 gr')).heap[F]? = some (filC lvl nm u gr' k) := by
  unfold filC at *
  constructor <;> simp [World.setCell, Array.getElem?_modify, h]
theorem own_form {w : World} {base : Nat} {e : TypeId} {k n : Nat} {v : Value} {xs : List Value} (h : w.ownsRow base e k v n xs) : ∃ a cap, v = .slice a n cap := by
  rcases Joins.ownsRow_forms h with ⟨rfl, hp⟩ | ⟨g, cap, rfl⟩
  · exact ⟨none, 0, by rw [hp]⟩
  · exact ⟨_, cap, rfl⟩
theorem row_free {w : World} {g i : Nat} {cs : Array Value} {t : TypeId} (h : w.heap[g]? = some (.cells cs t (0, 0))) : w.frozen? ⟨g, i, none⟩ = false := by
  simp [World.frozen?, h]
theorem put_facts {w0 w5 : World} {F PP : Nat} {lvl gr id pt g : Int} {code nm : ByteArray} {bd : Bool} {k : Pck} {x0 vo v' u : Value} (h0 : w0.heap[F]? = some (filC lvl nm u gr k)) (hp0 : w0.heap[PP]? = some (.cells #[.int .i64 id, .int .i64 pt, .string code, .int .i64 g, .bool bd] 90 (0, 0)))
    (hnF : ∀ g, vo.ownBlock = some g → ∀ cur fr, w0.heap[g]? ≠ some (.cells cur 174 fr)) (hnP : ∀ g, vo.ownBlock = some g → ∀ cur fr, w0.heap[g]? ≠ some (.cells cur 90 fr))
    (hg : (w0.drew.alloc (.cells #[x0] 3)).grownBy w5 vo.ownBlock) (hne : PP ≠ F) :
    (w5.heap[F]? = some (filC lvl nm u gr k)) ∧ w5.cell? ⟨F, 2, none⟩ = some u ∧ (w5.setCell ⟨F, 2, none⟩ v').cell? ⟨F, 3, none⟩ = some (.int .i64 gr) ∧ (w5.setCell ⟨F, 2, none⟩ v').cell? ⟨PP, 3, none⟩ = some (.int .i64 g) ∧ w5.frozen? ⟨F, 2, none⟩ = false ∧ (w5.setCell ⟨F, 2, none⟩ v').frozen? ⟨F, 3, none⟩ = false := by
  have hF : F < w0.heap.size := (Array.getElem?_eq_some_iff.1 h0).1
  have hP : PP < w0.heap.size := (Array.getElem?_eq_some_iff.1 hp0).1
  have b1 : Below w0.heap.size w0 (w0.drew.alloc (.cells #[x0] 3)) := (Below.refl _ w0).drew.alloc (Nat.le_refl _) _
  have hz : (w0.drew.alloc (.cells #[x0] 3)).heap.size = w0.heap.size + 1 := by rw [World.size_alloc]; rfl
  have f5 : w5.heap[F]? = some (filC lvl nm u gr k) := (hg.block F (by omega) (fun e => hnF F e.symm _ _ h0)).trans ((b1.block _ hF).trans h0)
  have p5 : w5.heap[PP]? = some (.cells #[.int .i64 id, .int .i64 pt, .string code, .int .i64 g, .bool bd] 90 (0, 0)) := (hg.block PP (by omega) (fun e => hnP PP e.symm _ _ hp0)).trans ((b1.block _ hP).trans hp0)
  have f6 := (fil_set (u' := v') (gr' := gr) f5).1
  have p6 : (w5.setCell ⟨F, 2, none⟩ v').heap[PP]? = some (.cells #[.int .i64 id, .int .i64 pt, .string code, .int .i64 g, .bool bd] 90 (0, 0)) := ((set_grown w5 ⟨F, 2, none⟩ v').block PP (Array.getElem?_eq_some_iff.1 p5).1 (fun e => hne (Option.some.inj e))).trans p5
  refine ⟨f5, ?_, ?_, ?_, row_free f5, row_free f6⟩
  · unfold filC at f5; exact cell_of_row _ _ 2 _ _ _ f5
  · unfold filC at f6; exact cell_of_row _ _ 3 _ _ _ f6
  · exact cell_of_row _ _ 3 _ _ _ p6
set_option maxHeartbeats 8000000 in
theorem put_any {F b n : Nat} {lvl gr : Int} {nm : ByteArray} {k : Pck} {p : Pce} {u : Value} {ids : List Int} {w : World} (h : w.heap[F]? = some (filC lvl nm u gr k)) (hu : w.ownsRow b 3 1 u n (ids.map (Value.int .i64))) (hFb : b ≤ F) (hb : b ≤ w.heap.size)
    (hn : n ≤ 1000000) (hg : 0 ≤ gr ∧ gr ≤ 100000000) (hp : 0 ≤ p.grams ∧ p.grams ≤ 100000) :
    Calls Tryz.prog 104 #[.pointer (some ⟨F, 0, none⟩), pceV p] w fun e w' => (∃ r, e = .returned r) ∧ Below b w w' ∧ ∃ u', w'.heap[F]? = some (filC lvl nm u' (gr + p.grams) k) ∧ w'.ownsRow b 3 1 u' (n + 1) ((ids ++ [p.id]).map (Value.int .i64)) := by
  obtain ⟨id, pt, code, g, bd⟩ := p
  unfold pceV
  dsimp only at *
  obtain ⟨i0, hi⟩ := info_parts Tryz.infoI
  have HI := Lib.hid hi
  have hF : F < w.heap.size := (Array.getElem?_eq_some_iff.1 h).1
  obtain ⟨w0, hw0⟩ : ∃ w0, w0 = w.alloc (.cells #[.int .i64 id, .int .i64 pt, .string code, .int .i64 g, .bool bd] 90) := ⟨_, rfl⟩
  have hz0 : w0.heap.size = w.heap.size + 1 := by rw [hw0, World.size_alloc]
  have hbb : Below w.heap.size w w0 := by rw [hw0]; exact (Below.refl _ w).alloc (Nat.le_refl _) _
  have hb0 : Below b w w0 := hbb.mono hb
  have h0 : w0.heap[F]? = some (filC lvl nm u gr k) := (hbb.block _ hF).trans h
  have hu0 := row_belowT hu hbb
  have hp0 : w0.heap[w.heap.size]? = some (.cells #[.int .i64 id, .int .i64 pt, .string code, .int .i64 g, .bool bd] 90 (0, 0)) := by rw [hw0]; exact alloc_new w _
  have p0 : w0.cell? ⟨w.heap.size, 0, none⟩ = some (.int .i64 id) := cell_of_row _ _ 0 _ _ _ hp0
  obtain ⟨a, cap, rfl⟩ := own_form hu0
  have hpF : w.heap.size ≠ F := by omega
  have hwf : F < w0.heap.size := by omega
  have hwp : w.heap.size < w0.heap.size := by omega
  have HW0 := Lib.hid hw0
  have HB0 := Lib.hid hb0
  have HZ0 := Lib.hid hz0
  have HU0 := Lib.hid hu0
  have HH0 := Lib.hid h0
  have HP0 := Lib.hid hp0
  unfold filC at h0
  obtain ⟨c0, c1, c2, c3, c4, c5, c6, c7⟩ := cells8 h0
  clear hz0 h hu hu0 hi h0 hp0 hbb hb0 hw0 c0 c1 c3 c4 c5 c6 c7
  go_enter Tryz.func104, Tryz.ntmps104
  go_upto_region 1 with fail
  rw [← HW0.out]
  go_region_law (first | (refine step_append_lies _ (by rfl) _ _ _ (by rfl) b 3 i0 (.int .i64 0) 1 8 Tryz.underlying30 HI.out.1 HI.out.2.1 HI.out.2.2.1 HI.out.2.2.2 rfl (by decide) (.slice a n cap) n _ (by rfl) (HU0.out.drew.alloc _) ⟨w0.heap.size, 0, none⟩ 1 1 [.int .i64 id] (by rfl) (by rfl) (cells_new _ _ _) (by simp [Value.oneCell']) (by omega) (by unfold maxLen; omega) (by omega) (by have := HZ0.out; simp; omega) _ rfl ?_; intro a5 cap5 w5 hown' hgrow _ _; obtain ⟨H5, s2, s3, s3p, z2, z3⟩ := put_facts (w0 := w0) (w5 := w5) (F := F) (PP := w.heap.size) (x0 := .int .i64 id) (vo := .slice a n cap) (v' := .slice (some ⟨a5, 0, none⟩) (n + 1) cap5) HH0.out HP0.out (own_not HU0.out (T := 174) (by decide)) (own_not HU0.out (T := 90) (by decide)) hgrow hpF; obtain ⟨W6, hW6⟩ : ∃ W6, W6 = w5.setCell ⟨F, 2, none⟩ (.slice (some ⟨a5, 0, none⟩) (n + 1) cap5) := ⟨_, rfl⟩; rw [← hW6] at s3 s3p z3; have HW6 := Lib.hid hW6; have H5 := Lib.hid H5; clear hW6))
  all_goals
    go_wp2_with fail
    rw [← HW6.out]
    go_still_tail 11, (by kernel_rfl)
    change wpList _ _ _ _ _ W6.drew
    go_wp2_with fail
    go_end0
    have hF6 : W6.heap[F]? = some (filC lvl nm (.slice (some ⟨a5, 0, none⟩) (n + 1) cap5) gr k) := by rw [HW6.out]; exact (fil_set (gr' := gr) H5.out).1
    refine ⟨⟨_, rfl⟩, ?_, _, (fil_set (u' := .slice none 0 0) hF6).2, ?_⟩
    · have hz := HZ0.out
      have b1 : Below b w w5 := (HB0.out.drew.alloc (by show b ≤ w0.heap.size; omega) _).grown hgrow (by rw [World.size_alloc]; show b ≤ w0.heap.size + 1; omega) (fun r e => (HU0.out.lt r e).1)
      have b2 : Below b w W6 := by rw [HW6.out]; exact b1.setCell (p := ⟨F, 2, none⟩) hFb _
      exact (b2.setCell (p := ⟨F, 3, none⟩) hFb _).drew
    · have o5 : w5.ownsRow b 3 1 (.slice (some ⟨a5, 0, none⟩) (n + 1) cap5) (n + 1) ((ids ++ [id]).map (Value.int .i64)) := by rw [List.map_append]; exact hown'
      have hne : a5 ≠ F := fun e => own_not o5 (T := 174) (by decide) a5 rfl _ _ (by rw [e]; exact H5.out)
      have o6 : W6.ownsRow b 3 1 (.slice (some ⟨a5, 0, none⟩) (n + 1) cap5) (n + 1) ((ids ++ [id]).map (Value.int .i64)) := by
        rw [HW6.out]; exact o5.kept (set_grown _ _ _) (.inr (fun e => hne (Option.some.inj e)))
      exact (o6.kept (set_grown _ ⟨F, 3, none⟩ _) (.inr (fun e => hne (Option.some.inj e)))).drew
end Go.Proofs.YtojedplbhialpaaGreatDoor

/-! TC -/
namespace Go.Proofs.YtojedplbhialpaaGreatDoor
open Go.RowKit Go.Sort
set_option linter.unusedVariables false
set_option maxRecDepth 100000
theorem Tryz.infoB4 : (Tryz.prog.info? 53).map (fun i => (i.zero, i.size, i.bytes)) = some (some (.agg #[.int .i64 0, .string ⟨#[]⟩, .slice none 0 0, .int .i64 0]), 4, 56) := by kernel_rfl
def bunCell (p : Bun × Value) : List Value := [.int .i64 p.1.lvl, .string p.1.grp, p.2, .int .i64 p.1.grams]
def OwnsB (w : World) (base : Nat) (v : Value) (bs : List Bun) : Prop :=
  ∃ L : List (Bun × Value), L.map Prod.fst = bs ∧ (∀ p ∈ L, RowJ w base p.2 p.1.ids) ∧ w.ownsRow base 53 4 v L.length (L.flatMap bunCell)
theorem OwnsB.nil (w : World) (base : Nat) : OwnsB w base (.slice none 0 0) [] := ⟨[], rfl, by simp, World.ownsRow_nil _ _ _ _⟩
theorem OwnsB.below {w w' : World} {base : Nat} {v : Value} {bs : List Bun} (h : OwnsB w base v bs) (hb : Below w.heap.size w w') : OwnsB w' base v bs := by
  obtain ⟨L, hL, h1, h2⟩ := h
  exact ⟨L, hL, fun p hp => (h1 p hp).below hb, row_belowT h2 hb⟩
theorem OwnsB.mono {w : World} {base base' : Nat} {v : Value} {bs : List Bun} (h : OwnsB w base v bs) (hb : base' ≤ base) : OwnsB w base' v bs := by
  obtain ⟨L, hL, h1, h2⟩ := h
  exact ⟨L, hL, fun p hp => (h1 p hp).mono hb, own_mono h2 hb⟩
theorem OwnsB.form {w : World} {base : Nat} {v : Value} {bs : List Bun} (h : OwnsB w base v bs) : ∃ a cap, v = .slice a bs.length cap := by
  obtain ⟨L, rfl, _, ho⟩ := h
  rw [List.length_map]
  exact own_form ho
theorem OwnsB.add {W3 w2 : World} {base : Nat} {v v' u : Value} {b : Bun} {L : List (Bun × Value)} (hr : ∀ p ∈ L, RowJ W3 base p.2 p.1.ids) (hu : RowJ W3 base u b.ids) (hO : W3.ownsRow base 53 4 v L.length (L.flatMap bunCell)) (hg : W3.grownBy w2 v.ownBlock)
    (ho : w2.ownsRow base 53 4 v' (L.length + 1) (L.flatMap bunCell ++ bunCell (b, u))) : OwnsB w2 base v' (L.map Prod.fst ++ [b]) := by
  have nA := own_not hO (T := 3) (by decide)
  refine ⟨L ++ [(b, u)], by rw [List.map_append]; rfl, fun p hp => ?_, ?_⟩
  · rcases List.mem_append.1 hp with hp | hp
    · exact (hr p hp).kept hg (fun g e => .inr (nA g e))
    · rw [List.mem_singleton.1 hp]; exact hu.kept hg (fun g e => .inr (nA g e))
  · rw [List.flatMap_append, List.length_append, List.flatMap_singleton]
    simpa using ho
set_option maxHeartbeats 8000000 in
theorem fresh_any (lvl : Int) (nm : ByteArray) (k : Pck) (X Y : Nat) (w : World) (h0 : w.cell? ⟨X, 0, none⟩ = some (.int .i64 lvl)) (h1 : w.cell? ⟨X, 1, none⟩ = some (.string nm)) (y0 : w.cell? ⟨Y, 0, none⟩ = some (.int .i64 k.pieces)) (y1 : w.cell? ⟨Y, 1, none⟩ = some (.int .i64 k.grams)) (y2 : w.cell? ⟨Y, 2, none⟩ = some (.int .i64 k.bundles)) (y3 : w.cell? ⟨Y, 3, none⟩ = some (.int .i64 k.trays)) :
    Calls Tryz.prog 102 #[.pointer (some ⟨X, 0, none⟩), .pointer (some ⟨Y, 0, none⟩)] w fun e w' => e = .returned (.pointer (some ⟨w.heap.size, 0, none⟩)) ∧ w' = w.alloc (filC lvl nm (.slice none 0 0) 0 k) := by
  go_enter Tryz.func102, Tryz.ntmps102
  go_wp2_with fail
  go_ret
  exact ⟨rfl, rfl⟩
def stq (k : Pck) (ps : List Pce) (zs : List Int) (x : Grp) (q : Nat) : List (List Int) × List Int := cutTo k ps ((x.items.take q).filter (fun i => decide (zs.getD i.toNat (-1) = x.lvl)))
theorem stq_end (k : Pck) (ps : List Pce) (zs : List Int) (x : Grp) : stq k ps zs x x.items.length = cutTo k ps (takesOf zs x) := by unfold stq takesOf; rw [List.take_length]
theorem stq_skip {k : Pck} {ps : List Pce} {zs : List Int} {x : Grp} {q : Nat} (h : q < x.items.length) (hne : zs.getD (x.items[q]).toNat (-1) ≠ x.lvl) : stq k ps zs x (q + 1) = stq k ps zs x q := by
  unfold stq
  rw [List.take_succ_eq_append_getElem h, List.filter_append, List.filter_cons, if_neg (by simpa using hne), List.filter_nil, List.append_nil]
theorem stq_take {k : Pck} {ps : List Pce} {zs : List Int} {x : Grp} {q : Nat} (h : q < x.items.length) (he : zs.getD (x.items[q]).toNat (-1) = x.lvl) : stq k ps zs x (q + 1) = cutStep k ps (stq k ps zs x q) x.items[q] := by
  unfold stq
  rw [List.take_succ_eq_append_getElem h, List.filter_append, List.filter_cons, if_pos (by simpa using he), List.filter_nil, cutTo_snoc]
theorem stq_len (k : Pck) (ps : List Pce) (zs : List Int) (x : Grp) : ∀ q, q ≤ x.items.length → (stq k ps zs x q).1.length ≤ q
  | 0, _ => Nat.le_refl _
  | q + 1, hq => by
    have ih := stq_len k ps zs x q (by omega)
    by_cases he : zs.getD (x.items[q]'(by omega)).toNat (-1) = x.lvl
    · rw [stq_take (by omega) he]
      unfold cutStep
      split
      · show (stq k ps zs x q).1.length ≤ q + 1
        omega
      · show ((stq k ps zs x q).1 ++ _).length ≤ q + 1
        rw [List.length_append]; simp; omega
    · rw [stq_skip (by omega) he]; omega
theorem grams_pos {ps : List Pce} {l : List Int} (h : ∀ i ∈ l, 0 ≤ (pcAt ps i).grams) : 0 ≤ gramsOf ps l := by
  unfold gramsOf
  induction l with
  | nil => simp
  | cons i r ih =>
    simp only [List.map_cons, List.sum_cons]
    have := h i List.mem_cons_self
    have := ih (fun j hj => h j (List.mem_cons_of_mem _ hj))
    omega
theorem stq_ok {k : Pck} {ps : List Pce} {zs : List Int} {x : Grp} (hk : 1 ≤ k.pieces) (hg0 : 0 ≤ k.grams) (hg : ∀ i ∈ x.items, 0 ≤ (pcAt ps i).grams ∧ (pcAt ps i).grams ≤ k.grams) {q : Nat} (hq : q ≤ x.items.length) :
    ((stq k ps zs x q).2.length : Int) ≤ k.pieces ∧ 0 ≤ gramsOf ps (stq k ps zs x q).2 ∧ gramsOf ps (stq k ps zs x q).2 ≤ k.grams := by
  have hm : ∀ i ∈ (x.items.take q).filter (fun i => decide (zs.getD i.toNat (-1) = x.lvl)), i ∈ x.items := fun i hi => List.mem_of_mem_take (List.mem_filter.1 hi).1
  have h := cut_ok hk hg0 _ (fun i hi => (hg i (hm i hi)).2)
  refine ⟨h.last.1, ?_, h.last.2⟩
  have hmem : ∀ i ∈ (stq k ps zs x q).2, 0 ≤ (pcAt ps i).grams := fun i hi => (hg i (hm i (by rw [← h.all]; exact List.mem_append_right _ hi))).1
  exact grams_pos hmem
structure FilI (W3 : World) (base : Nat) (k : Pck) (ps : List Pce) (x : Grp) (st : List (List Int) × List Int) (wx Wc : World) (v : Value) (F : Nat) (u : Value) : Prop where
  b1 : Below W3.heap.size W3 Wc
  own : OwnsB Wc base v (st.1.map (bunOf ps x))
  b2 : Below Wc.heap.size Wc wx
  hF : Wc.heap.size ≤ F
  fil : wx.heap[F]? = some (filC x.lvl x.name u (gramsOf ps st.2) k)
  row : wx.ownsRow Wc.heap.size 3 1 u st.2.length ((st.2.map (fun i => (pcAt ps i).id)).map (Value.int .i64))
theorem FilI.all {W3 : World} {base : Nat} {k : Pck} {ps : List Pce} {x : Grp} {st : List (List Int) × List Int} {wx Wc : World} {v : Value} {F : Nat} {u : Value} (h : FilI W3 base k ps x st wx Wc v F u) : Below W3.heap.size W3 wx := h.b1.trans (h.b2.mono h.b1.size)
theorem FilI.below {W3 : World} {base : Nat} {k : Pck} {ps : List Pce} {x : Grp} {st : List (List Int) × List Int} {wx wy Wc : World} {v : Value} {F : Nat} {u : Value} (h : FilI W3 base k ps x st wx Wc v F u) (hb : Below wx.heap.size wx wy) : FilI W3 base k ps x st wy Wc v F u :=
  ⟨h.b1, h.own, h.b2.trans (hb.mono h.b2.size), h.hF, (hb.block F (Array.getElem?_eq_some_iff.1 h.fil).1).trans h.fil, row_belowT h.row hb⟩
theorem FilI.put {W3 : World} {base : Nat} {k : Pck} {ps : List Pce} {x : Grp} {st : List (List Int) × List Int} {wx wy Wc : World} {v : Value} {F : Nat} {u u' : Value} (h : FilI W3 base k ps x st wx Wc v F u) {i : Int} {g' : Int} (hg : g' = gramsOf ps st.2 + (pcAt ps i).grams)
    (hb : Below Wc.heap.size wx wy) (hf : wy.heap[F]? = some (filC x.lvl x.name u' g' k)) (hr : wy.ownsRow Wc.heap.size 3 1 u' (st.2.length + 1) ((st.2.map (fun i => (pcAt ps i).id) ++ [(pcAt ps i).id]).map (Value.int .i64))) :
    FilI W3 base k ps x (st.1, st.2 ++ [i]) wy Wc v F u' := by
  refine ⟨h.b1, h.own, h.b2.trans hb, h.hF, ?_, ?_⟩
  · rw [gramsOf_snoc, ← hg]; exact hf
  · show wy.ownsRow _ _ _ _ (st.2 ++ [i]).length _
    rw [List.length_append, List.map_append]
    exact hr
theorem FilI.fresh {W3 : World} {base : Nat} {k : Pck} {ps : List Pce} {x : Grp} {bs : List (List Int)} {W : World} {v : Value} (hb : Below W3.heap.size W3 W) (ho : OwnsB W base v (bs.map (bunOf ps x))) :
    FilI W3 base k ps x (bs, []) (W.alloc (filC x.lvl x.name (.slice none 0 0) 0 k)) W v W.heap.size (.slice none 0 0) :=
  ⟨hb, ho, (Below.refl _ _).alloc (Nat.le_refl _) _, Nat.le_refl _, alloc_new W _, World.ownsRow_nil _ _ _ _⟩
theorem FilI.done {W3 : World} {base : Nat} {k : Pck} {ps : List Pce} {x : Grp} {st : List (List Int) × List Int} {wx Wc w5 : World} {v v' : Value} {F : Nat} {u : Value} {o : Obj} (h : FilI W3 base k ps x st wx Wc v F u) (hbase : base ≤ Wc.heap.size) (L : List (Bun × Value)) (hL : L.map Prod.fst = st.1.map (bunOf ps x)) (hLr : ∀ p ∈ L, RowJ Wc base p.2 p.1.ids) (hLo : Wc.ownsRow base 53 4 v L.length (L.flatMap bunCell))
    (hg : (wx.alloc o).grownBy w5 v.ownBlock)
    (ho : w5.ownsRow base 53 4 v' (L.length + 1) (L.flatMap bunCell ++ [.int .i64 x.lvl, .string x.name, u, .int .i64 (gramsOf ps st.2)])) : OwnsB w5 base v' ((st.1 ++ [st.2]).map (bunOf ps x)) := by
  rw [List.map_append, List.map_cons, List.map_nil, ← hL]
  have hb : Below Wc.heap.size Wc (wx.alloc o) := h.b2.alloc h.b2.size _
  refine OwnsB.add (W3 := wx.alloc o) (fun p hp => (hLr p hp).below hb) ?_ (row_belowT hLo hb) hg ho
  refine RowJ.mono (base := Wc.heap.size) ?_ hbase
  refine rowJ_own ?_
  show (wx.alloc o).ownsRow _ _ _ _ (st.2.map (fun i => (pcAt ps i).id)).length _
  rw [List.length_map]
  exact h.row.alloc _
end Go.Proofs.YtojedplbhialpaaGreatDoor

/-! TD -/
namespace Go.Proofs.YtojedplbhialpaaGreatDoor
open Go.RowKit Go.Sort
set_option linter.unusedVariables false
set_option maxRecDepth 100000
theorem pcAt_mem {ps : List Pce} {i : Int} (h : 0 ≤ i ∧ i.toNat < ps.length) : pcAt ps i = ps[i.toNat]'h.2 ∧ pcAt ps i ∈ ps := by
  have e : pcAt ps i = ps[i.toNat]'h.2 := by
    unfold pcAt
    rw [List.getD_eq_getElem?_getD, List.getElem?_eq_getElem h.2]; rfl
  exact ⟨e, by rw [e]; exact List.getElem_mem h.2⟩
theorem boxes3 {w w3 : World} {c1 c2 c3 : Array Value} {t1 t2 t3 : TypeId} (h : w3 = ((w.alloc (.cells c1 t1)).alloc (.cells c2 t2)).alloc (.cells c3 t3)) :
    w3.heap[w.heap.size]? = some (.cells c1 t1 (0, 0)) ∧ w3.heap[w.heap.size + 1]? = some (.cells c2 t2 (0, 0)) ∧ w3.heap[w.heap.size + 1 + 1]? = some (.cells c3 t3 (0, 0)) := by
  rw [h]
  obtain ⟨a, ha⟩ : ∃ a, a = w.alloc (.cells c1 t1) := ⟨_, rfl⟩
  obtain ⟨b, hb⟩ : ∃ b, b = a.alloc (.cells c2 t2) := ⟨_, rfl⟩
  have za : a.heap.size = w.heap.size + 1 := by rw [ha, World.size_alloc]
  have zb : b.heap.size = w.heap.size + 1 + 1 := by rw [hb, World.size_alloc, za]
  have na : a.heap[w.heap.size]? = some (.cells c1 t1 (0, 0)) := by rw [ha]; exact alloc_new w _
  have nb : b.heap[w.heap.size + 1]? = some (.cells c2 t2 (0, 0)) := by rw [hb, ← za]; exact alloc_new a _
  have nc : (b.alloc (.cells c3 t3)).heap[w.heap.size + 1 + 1]? = some (.cells c3 t3 (0, 0)) := by rw [← zb]; exact alloc_new b _
  rw [← ha, ← hb]
  have nb1 : b.heap[w.heap.size]? = some (.cells c1 t1 (0, 0)) := by rw [hb]; exact (Below.heap_alloc _ _ _ (by omega)).trans na
  exact ⟨(Below.heap_alloc _ _ _ (by omega)).trans nb1, (Below.heap_alloc _ _ _ (by omega)).trans nb, nc⟩
set_option maxHeartbeats 16000000 in
theorem bundlesOf_any (x : Grp) (sv vp vz : Value) (m : Mai) (zs : List Int) (k : Pck) (w : World) (hs : RdInts w sv x.items) (hp : RdPces w vp m.ps) (hz : RdInts w vz zs) (hzl : zs.length = m.ps.length) (hpl : m.ps.length ≤ 2000) (hil : x.items.length ≤ 2000)
    (hit : ∀ i ∈ x.items, 0 ≤ i ∧ i.toNat < m.ps.length) (hk : 1 ≤ k.pieces ∧ k.pieces ≤ 2000 ∧ 0 ≤ k.grams ∧ k.grams ≤ 1000000) (hg : ∀ p ∈ m.ps, 0 ≤ p.grams ∧ p.grams ≤ 50000 ∧ p.grams ≤ k.grams) :
    Calls Tryz.prog 47 #[.agg #[.int .i64 x.lvl, .string x.name, .int .i64 x.up, sv], maiV m vp, vz, pckV k] w fun e w' => ∃ v, e = .returned v ∧ Below w.heap.size w w' ∧ OwnsB w' w.heap.size v (bunsOf k m.ps zs x) := by
  obtain ⟨j0, hj⟩ := info_parts Tryz.infoB4
  have HJ := Lib.hid hj
  obtain ⟨ai, ci, rfl, hsc⟩ := hs
  obtain ⟨ap, cp, rfl, hpc⟩ := hp
  obtain ⟨az, cz, rfl, hzc⟩ := hz
  have hgi : ∀ i ∈ x.items, 0 ≤ (pcAt m.ps i).grams ∧ (pcAt m.ps i).grams ≤ k.grams := fun i hi => by
    have := hg _ (pcAt_mem (hit i hi)).2
    omega
  have HST := Lib.hid (fun q (hq : q ≤ x.items.length) => stq_ok (zs := zs) hk.1 hk.2.2.1 hgi hq)
  have HSL := Lib.hid (stq_len k m.ps zs x)
  have HSE := Lib.hid (stq_end k m.ps zs x)
  have HGI := Lib.hid hgi
  have HIT := Lib.hid hit
  have HG := Lib.hid hg
  have HSC := Lib.hid hsc
  have HPC := Lib.hid hpc
  have HZC := Lib.hid hzc
  obtain ⟨w3, hw3⟩ : ∃ w3, w3 = ((w.alloc (.cells #[.int .i64 x.lvl, .string x.name, .int .i64 x.up, .slice ai x.items.length ci] 114)).alloc (.cells #[.int .u8 m.cls, .int .u8 m.ctr, .string m.origin, .slice ap m.ps.length cp] 29)).alloc (.cells #[.int .i64 k.pieces, .int .i64 k.grams, .int .i64 k.bundles, .int .i64 k.trays] 32) := ⟨_, rfl⟩
  have hz3 : w3.heap.size = w.heap.size + 1 + 1 + 1 := by rw [hw3, World.size_alloc, World.size_alloc, World.size_alloc]
  have hb3 : Below w.heap.size w w3 := by
    rw [hw3]
    exact (((Below.refl _ w).alloc (Nat.le_refl _) _).alloc (by simp) _).alloc (by simp; omega) _
  obtain ⟨g3, m3, k3⟩ := boxes3 hw3
  have HW3 := Lib.hid hw3
  have HB3 := Lib.hid hb3
  have HZ3 := Lib.hid hz3
  have HFR := Lib.hid (fun (W : World) (hB : Below w3.heap.size w3 W) => fresh_any x.lvl x.name k w.heap.size (w.heap.size + 1 + 1) W
    (cell_of_row _ _ 0 _ _ _ ((hB.block _ (by omega)).trans g3)) (cell_of_row _ _ 1 _ _ _ ((hB.block _ (by omega)).trans g3))
    (cell_of_row _ _ 0 _ _ _ ((hB.block _ (by omega)).trans k3)) (cell_of_row _ _ 1 _ _ _ ((hB.block _ (by omega)).trans k3)) (cell_of_row _ _ 2 _ _ _ ((hB.block _ (by omega)).trans k3)) (cell_of_row _ _ 3 _ _ _ ((hB.block _ (by omega)).trans k3)))
  have HCE := Lib.hid (fun (W : World) (hB : Below w3.heap.size w3 W) =>
    (⟨cell_of_row _ _ 3 _ _ _ ((hB.block _ (by omega)).trans g3), cell_of_row _ _ 0 _ _ _ ((hB.block _ (by omega)).trans g3), cell_of_row _ _ 3 _ _ _ ((hB.block _ (by omega)).trans m3)⟩ : W.cell? ⟨w.heap.size, 3, none⟩ = some (.slice ai x.items.length ci) ∧ W.cell? ⟨w.heap.size, 0, none⟩ = some (.int .i64 x.lvl) ∧ W.cell? ⟨w.heap.size + 1, 3, none⟩ = some (.slice ap m.ps.length cp)))
  clear hj hsc hpc hzc hgi hit hg g3 m3 k3 hw3 hb3 hz3
  obtain ⟨d0, d1, d2⟩ := HCE.out w3 (Below.refl _ _)
  unfold maiV pckV
  go_enter Tryz.func47, Tryz.ntmps47
  go_upto_region 1 with fail
  rw [← HW3.out]
  go_wp2_with (go_at_call 102; refine (HFR.out _ (Below.refl _ _)).mono ?_; rintro e w4 ⟨rfl, hw4⟩; obtain ⟨e0, e1, e2⟩ := HCE.out w4 (by rw [hw4]; exact (Below.refl _ _).alloc (Nat.le_refl _) _); have HW4 := Lib.hid hw4; clear hw4)
  go_loopw [10, 11, 20] (fun bv lv n wx => ∃ (q F : Nat) (Wc : World) (u : Value), q ≤ x.items.length ∧ n = .int .i64 q ∧ lv = .pointer (some ⟨F, 0, none⟩) ∧ FilI w3 w3.heap.size k m.ps x (stq k m.ps zs x q) wx Wc bv F u) (fun _ _ n _ => x.items.length - (intOf n).toNat)
  case atStart => exact ⟨0, w3.heap.size, w3, .slice none 0 0, Nat.zero_le _, rfl, rfl, by rw [HW4.out]; exact FilI.fresh (Below.refl _ _) (OwnsB.nil _ _)⟩
  case round =>
    obtain ⟨q, F, Wc, u, hq, rfl, rfl, hI⟩ := hrel
    have hst := HST.out q hq
    have hsl := HSL.out q hq
    have hse := HSE.out
    obtain ⟨a, cap, rfl⟩ := own_form hI.row
    have HALL := Lib.hid hI.all
    obtain ⟨bn, cb, hbv⟩ := hI.own.form
    rw [List.length_map] at hbv
    subst hbv
    by_cases hlt : q < x.items.length
    · obtain ⟨gi, oi, rfl, hgi, hci⟩ := HSC.out (by omega)
      have hin := HIT.out _ (List.getElem_mem hlt)
      have hskip := stq_skip (k := k) (ps := m.ps) (zs := zs) hlt
      have htake := stq_take (k := k) (ps := m.ps) (zs := zs) hlt
      have c1 := hci q hlt
      obtain ⟨it, hit⟩ : ∃ it, it = x.items[q] := ⟨_, rfl⟩
      rw [← hit] at hin hskip htake c1
      obtain ⟨h0, h1⟩ := hin
      obtain ⟨p, rfl⟩ : ∃ p : Nat, it = (p : Int) := ⟨it.toNat, (Int.toNat_of_nonneg h0).symm⟩
      rw [Int.toNat_natCast] at h1 hskip htake
      have hpm := pcAt_mem (ps := m.ps) (i := (p : Int)) ⟨h0, by rw [Int.toNat_natCast]; exact h1⟩
      have hpg := HG.out _ hpm.2
      have hpe : pcAt m.ps (p : Int) = m.ps[p] := hpm.1
      obtain ⟨gz, oz, rfl, hgz, hcz⟩ := HZC.out (by omega)
      obtain ⟨gp, op, rfl, hgp, hcp⟩ := HPC.out (by omega)
      have c2 := hcz p (by omega)
      obtain ⟨q0, q1, q2, q3, q4⟩ := hcp p h1
      obtain ⟨z, hz⟩ : ∃ z, z = zs[p]'(by omega) := ⟨_, rfl⟩
      have hzd : zs.getD p (-1) = z := by rw [List.getD_eq_getElem?_getD, List.getElem?_eq_getElem (by omega), hz]; rfl
      rw [hzd] at hskip htake
      rw [← hz] at c2
      rw [hpe] at hpg
      obtain ⟨pc, hpc⟩ : ∃ pc, pc = m.ps[p] := ⟨_, rfl⟩
      rw [← hpc] at q0 q1 q2 q3 q4 hpg hpe
      have hbw : Below w.heap.size w wr := HB3.out.trans (HALL.out.mono HB3.out.size)
      have HPF := Lib.hid (fun (W : World) (hB : Below wr.heap.size wr W) =>
        (⟨(hB.cell (p := ⟨gp, op + p * 5, none⟩) (Nat.lt_of_lt_of_le hgp hbw.size)).trans ((hbw.cell (p := ⟨gp, op + p * 5, none⟩) hgp).trans q0), (hB.cell (p := ⟨gp, op + p * 5 + 1, none⟩) (Nat.lt_of_lt_of_le hgp hbw.size)).trans ((hbw.cell (p := ⟨gp, op + p * 5 + 1, none⟩) hgp).trans q1),
          (hB.cell (p := ⟨gp, op + p * 5 + 2, none⟩) (Nat.lt_of_lt_of_le hgp hbw.size)).trans ((hbw.cell (p := ⟨gp, op + p * 5 + 2, none⟩) hgp).trans q2), (hB.cell (p := ⟨gp, op + p * 5 + 3, none⟩) (Nat.lt_of_lt_of_le hgp hbw.size)).trans ((hbw.cell (p := ⟨gp, op + p * 5 + 3, none⟩) hgp).trans q3),
          (hB.cell (p := ⟨gp, op + p * 5 + 4, none⟩) (Nat.lt_of_lt_of_le hgp hbw.size)).trans ((hbw.cell (p := ⟨gp, op + p * 5 + 4, none⟩) hgp).trans q4)⟩ :
          W.cell? ⟨gp, op + p * 5, none⟩ = some (.int .i64 pc.id) ∧ W.cell? ⟨gp, op + p * 5 + 1, none⟩ = some (.int .i64 pc.point) ∧ W.cell? ⟨gp, op + p * 5 + 2, none⟩ = some (.string pc.code) ∧ W.cell? ⟨gp, op + p * 5 + 3, none⟩ = some (.int .i64 pc.grams) ∧ W.cell? ⟨gp, op + p * 5 + 4, none⟩ = some (.bool pc.barred)))
      have hg3 : gp < w3.heap.size := Nat.lt_of_lt_of_le hgp HB3.out.size
      have HPQ := Lib.hid (fun (W : World) (hB : Below w3.heap.size w3 W) =>
        (⟨(hB.cell (p := ⟨gp, op + p * 5, none⟩) hg3).trans ((HB3.out.cell (p := ⟨gp, op + p * 5, none⟩) hgp).trans q0), (hB.cell (p := ⟨gp, op + p * 5 + 1, none⟩) hg3).trans ((HB3.out.cell (p := ⟨gp, op + p * 5 + 1, none⟩) hgp).trans q1),
          (hB.cell (p := ⟨gp, op + p * 5 + 2, none⟩) hg3).trans ((HB3.out.cell (p := ⟨gp, op + p * 5 + 2, none⟩) hgp).trans q2), (hB.cell (p := ⟨gp, op + p * 5 + 3, none⟩) hg3).trans ((HB3.out.cell (p := ⟨gp, op + p * 5 + 3, none⟩) hgp).trans q3),
          (hB.cell (p := ⟨gp, op + p * 5 + 4, none⟩) hg3).trans ((HB3.out.cell (p := ⟨gp, op + p * 5 + 4, none⟩) hgp).trans q4)⟩ :
          W.cell? ⟨gp, op + p * 5, none⟩ = some (.int .i64 pc.id) ∧ W.cell? ⟨gp, op + p * 5 + 1, none⟩ = some (.int .i64 pc.point) ∧ W.cell? ⟨gp, op + p * 5 + 2, none⟩ = some (.string pc.code) ∧ W.cell? ⟨gp, op + p * 5 + 3, none⟩ = some (.int .i64 pc.grams) ∧ W.cell? ⟨gp, op + p * 5 + 4, none⟩ = some (.bool pc.barred)))
      replace c1 := (hbw.cell (p := ⟨gi, oi + q, none⟩) hgi).trans c1
      replace c2 := (hbw.cell (p := ⟨gz, oz + p, none⟩) hgz).trans c2
      obtain ⟨d0, d1, d2⟩ := HCE.out wr HALL.out
      obtain ⟨p0, p1, p2, p3, p4⟩ := HPF.out wr (Below.refl _ _)
      have HPE := Lib.hid hpe
      obtain ⟨st, hs⟩ : ∃ st, st = stq k m.ps zs x q := ⟨_, rfl⟩
      rw [← hs] at hI hst hsl hskip htake ⊢
      have HI := Lib.hid hI
      obtain ⟨lv, hlv⟩ : ∃ lv, lv = x.lvl := ⟨_, rfl⟩
      have HLV := Lib.hid hlv
      have HSK := Lib.hid hskip
      have HTA := Lib.hid htake
      have HSQ := Lib.hid hst
      have HSN := Lib.hid hsl
      rw [← hlv] at d1 ⊢
      clear hpe hskip htake hst hsl hse q0 q1 q2 q3 q4 hpm hit hzd hz hpc hci hcz hcp hI hlv hs
      by_cases hzl : z = lv
      · have hbq : (z == lv) = true := by simp [hzl]
        have hta := HTA.out (by rw [← HLV.out]; exact hzl)
        have HTT := Lib.hid hta
        clear hta hzl
        go_wp2_with fail
        go_quiet (fail)
        obtain ⟨wd, hwd⟩ : ∃ wd, wd = wr.drewN nq := ⟨_, rfl⟩
        rw [← hwd]
        have hbd : Below wr.heap.size wr wd := by rw [hwd]; exact below_drewN (Below.refl _ _) _
        have HID := Lib.hid (HI.out.below hbd)
        have HBD := Lib.hid hbd
        obtain ⟨e0, e1, e2⟩ := HCE.out wd (HALL.out.trans (hbd.mono HALL.out.size))
        obtain ⟨r0, r1, r2, r3, r4⟩ := HPF.out wd hbd
        have HTK := Lib.hid (takes_any (p := pc) HID.out.fil (by have := HSQ.out; omega) (by have := HSQ.out; omega) (by omega))
        clear hwd hbd p0 p1 p2 p3 p4 d0 d1 d2 c1 c2
        by_cases hf : fitsP k m.ps st.2 (p : Int)
        · have hcs : stq k m.ps zs x (q + 1) = (st.1, st.2 ++ [(p : Int)]) := by rw [HTT.out]; unfold cutStep; rw [if_pos hf]
          have HCS := Lib.hid hcs
          unfold fitsP at hf
          rw [HPE.out] at hf
          have hd : (decide (((st.2.length : Nat) : Int) < k.pieces) && decide (gramsOf m.ps st.2 + pc.grams ≤ k.grams)) = true := by simp [hf.1, hf.2]
          rw [hd] at HTK
          clear hcs hd hf
          go_wp2_with (first | (go_at_call 103; refine HTK.out.mono ?_; rintro e w5 ⟨rfl, hb5⟩; have HB5 := Lib.hid hb5; have HI5 := Lib.hid (HID.out.below hb5); obtain ⟨f0, f1, f2⟩ := HCE.out w5 HI5.out.all; obtain ⟨s0, s1, s2, s3, s4⟩ := HPF.out w5 (HBD.out.trans (hb5.mono HBD.out.size)); clear hb5) | (go_at_call 104; refine (put_any (p := pc) HI5.out.fil HI5.out.row HI5.out.hF HI5.out.b2.size (by have := HSQ.out; omega) (by have := HSQ.out; omega) (by omega)).mono ?_; rintro e w6 ⟨⟨r, rfl⟩, hb6, u6, hf6, hr6⟩; have HI6 := Lib.hid (HI5.out.put (i := (p : Int)) (g' := gramsOf m.ps st.2 + pc.grams) (by rw [HPE.out]) hb6 hf6 (by rw [HPE.out]; exact hr6)); clear hb6 hf6 hr6))
          go_roundw
          case rel => exact ⟨q + 1, F, Wc, u6, by omega, by go_num, rfl, by rw [HCS.out]; exact HI6.out⟩
          case measure => simp [intOf]; omega
        · have hcs : stq k m.ps zs x (q + 1) = (st.1 ++ [st.2], [(p : Int)]) := by rw [HTT.out]; unfold cutStep; rw [if_neg hf]
          have HCS := Lib.hid hcs
          unfold fitsP at hf
          rw [HPE.out] at hf
          have hd : (decide (((st.2.length : Nat) : Int) < k.pieces) && decide (gramsOf m.ps st.2 + pc.grams ≤ k.grams)) = false := by rw [← Bool.decide_and]; exact decide_eq_false hf
          rw [hd] at HTK
          obtain ⟨L, hL, hLr, hLo⟩ := HID.out.own
          have hll : L.length ≤ 2000 := by
            have := congrArg List.length hL
            rw [List.length_map, List.length_map] at this
            have := HSN.out
            omega
          have HL := Lib.hid hL
          have HLR := Lib.hid hLr
          have HLO := Lib.hid hLo
          clear hcs hd hf hL hLr hLo
          go_wp2_with (first | (go_at_call 103; refine HTK.out.mono ?_; rintro e w5 ⟨rfl, hb5⟩; have HI5 := Lib.hid (HID.out.below hb5); have hfil := HI5.out.fil; unfold filC at hfil; obtain ⟨f0, f1, f2, f3, _⟩ := cells8 hfil; clear hfil hb5) | (at_builtin; refine wpList_append_own _ rfl _ _ 35 rfl w3.heap.size 53 j0 (.agg #[.int .i64 0, .string ⟨#[]⟩, .slice none 0 0, .int .i64 0]) 4 56 Tryz.underlying35 HJ.out.1 HJ.out.2.1 HJ.out.2.2.1 HJ.out.2.2.2 rfl (by decide) _ L.length _ rfl ((row_belowT HLO.out HI5.out.b2).alloc _) ⟨w5.heap.size, 0, none⟩ 1 1 [.int .i64 x.lvl, .string x.name, .slice a st.2.length cap, .int .i64 (gramsOf m.ps st.2)] rfl rfl (cells_new _ _ _) (by simp [Value.oneCell']) (by unfold maxLen; omega) (by omega) (by have := HI5.out.all.size; simp; omega) ?_; intro v' w6 hown' hgrow _; have HB6 := Lib.hid ((HI5.out.all.alloc HI5.out.all.size _).grown hgrow (by have := HI5.out.all.size; simp; omega) (fun r e => (HLO.out.lt r e).1)); have HO6 := Lib.hid (HI5.out.done HID.out.b1.size L HL.out HLR.out HLO.out hgrow hown'); clear hown' hgrow) | (go_at_call 102; refine (HFR.out _ HB6.out).mono ?_; rintro e w7 ⟨rfl, hw7⟩; have hI7 := FilI.fresh (x := x) (k := k) (ps := m.ps) HB6.out HO6.out; rw [← hw7] at hI7; have HI7 := Lib.hid hI7; obtain ⟨t0, t1, t2⟩ := HCE.out w7 HI7.out.all; obtain ⟨s0, s1, s2, s3, s4⟩ := HPQ.out w7 HI7.out.all; clear hw7 hI7) | (go_at_call 104; refine (put_any (p := pc) HI7.out.fil HI7.out.row HI7.out.hF HI7.out.b2.size (by simp) (by show 0 ≤ (0 : Int) ∧ (0 : Int) ≤ 100000000; decide) (by omega)).mono ?_; rintro e w8 ⟨⟨r, rfl⟩, hb8, u8, hf8, hr8⟩; have HI8 := Lib.hid (HI7.out.put (i := (p : Int)) (g' := gramsOf m.ps [] + pc.grams) (by rw [HPE.out]) hb8 hf8 (by rw [HPE.out]; exact hr8)); clear hb8 hf8 hr8))
          go_roundw
          case rel => exact ⟨q + 1, w6.heap.size, w6, u8, by omega, by go_num, rfl, by rw [HCS.out]; exact HI8.out⟩
          case measure => simp [intOf]; omega
      · have hbq : (z == lv) = false := by simp [hzl]
        have hsk := HSK.out (by rw [← HLV.out]; exact hzl)
        have HSKK := Lib.hid hsk
        clear hsk hzl
        go_wp2_with fail
        go_quiet (fail)
        go_wp2_with fail
        go_roundw
        case rel => exact ⟨q + 1, F, Wc, _, by omega, by go_num, rfl, by rw [HSKK.out]; exact HI.out.below (by first | exact below_drewN (Below.refl _ _) _ | exact (Below.refl _ _).drew)⟩
        case measure => simp [intOf]; omega
    · obtain rfl : q = x.items.length := by omega
      rw [hse] at hI hst hsl ⊢
      obtain ⟨st, hs⟩ : ∃ st, st = cutTo k m.ps (takesOf zs x) := ⟨_, rfl⟩
      have hcu : cuts k m.ps (takesOf zs x) = if 0 < st.2.length then st.1 ++ [st.2] else st.1 := by rw [hs]; rfl
      rw [← hs] at hI hst hsl ⊢
      have HCU := Lib.hid hcu
      have HI := Lib.hid hI
      have hfil := hI.fil
      unfold filC at hfil
      obtain ⟨f0, f1, f2, f3, _⟩ := cells8 hfil
      clear hs hcu hse hfil
      by_cases h0 : 0 < st.2.length
      · have hcu := HCU.out
        rw [if_pos h0] at hcu
        have HCU2 := Lib.hid hcu
        obtain ⟨L, hL, hLr, hLo⟩ := hI.own
        have hll : L.length ≤ 2000 := by
          have := congrArg List.length hL
          rw [List.length_map, List.length_map] at this
          omega
        have HL := Lib.hid hL
        have HLR := Lib.hid hLr
        have HLO := Lib.hid hLo
        clear hcu hL hLr hLo hI
        go_wp2_with (at_builtin; refine wpList_append_own _ rfl _ _ 35 rfl w3.heap.size 53 j0 (.agg #[.int .i64 0, .string ⟨#[]⟩, .slice none 0 0, .int .i64 0]) 4 56 Tryz.underlying35 HJ.out.1 HJ.out.2.1 HJ.out.2.2.1 HJ.out.2.2.2 rfl (by decide) _ L.length _ rfl ((row_belowT HLO.out HI.out.b2).alloc _) ⟨wr.heap.size, 0, none⟩ 1 1 [.int .i64 x.lvl, .string x.name, .slice a st.2.length cap, .int .i64 (gramsOf m.ps st.2)] rfl rfl (cells_new _ _ _) (by simp [Value.oneCell']) (by unfold maxLen; omega) (by omega) (by have := HI.out.all.size; simp; omega) ?_; intro v' w6 hown' hgrow _; have HB6 := Lib.hid ((HI.out.all.alloc HI.out.all.size _).grown hgrow (by have := HI.out.all.size; simp; omega) (fun r e => (HLO.out.lt r e).1)); have HO6 := Lib.hid (HI.out.done HI.out.b1.size L HL.out HLR.out HLO.out hgrow hown'); clear hown' hgrow)
        go_ret
        refine ⟨_, rfl, HB3.out.trans (HB6.out.mono HB3.out.size), ?_⟩
        unfold bunsOf
        rw [HCU2.out]
        exact HO6.out.mono HB3.out.size
      · have hcu := HCU.out
        rw [if_neg h0] at hcu
        have HCU2 := Lib.hid hcu
        clear hcu hI
        go_wp2_with fail
        go_ret
        refine ⟨_, rfl, HB3.out.trans (HI.out.all.mono HB3.out.size), ?_⟩
        unfold bunsOf
        rw [HCU2.out]
        exact (HI.out.own.below HI.out.b2).mono HB3.out.size
end Go.Proofs.YtojedplbhialpaaGreatDoor
