/-
  A bundle that is being filled: its fresh form, takes, put.
-/
import Derived.Test.YtelklmdlodgdpaaGreatTA
import Derived.Lib.QuietBelow
import Derived.StillTailTactics
import Derived.Deep.AppendLies
import Derived.Deep.RegionLaw
import Derived.BigQuiet
import Derived.BigRegion
namespace Go.Proofs.YtelklmdlodgdpaaGreat
open Go.RowKit Go.Sort
set_option linter.unusedVariables false
set_option linter.unusedSimpArgs false
set_option maxRecDepth 100000
theorem cells_in {w : World} {a : Addr} {v : Value} (h : w.cell? a = some v) : ∀ p : Regrown, (grow (redrawn w p.d) p.os).cell? a = some v := fun p => cell_regrown h p.d p.os
theorem below_in (w : World) (p : Regrown) : Below w.heap.size w (grow (redrawn w p.d) p.os) := below_regrown w p.d p.os
/-- The cells of a filling. -/
def filC (lvl : Int) (nm : ByteArray) (u : Value) (gr : Int) (k : Pck) : Obj := .cells #[.int .i64 lvl, .string nm, u, .int .i64 gr, .int .i64 k.pieces, .int .i64 k.grams, .int .i64 k.bundles, .int .i64 k.trays] 122 (0, 0)
def pceV (p : Pce) : Value := .agg #[.int .i64 p.id, .int .i64 p.point, .string p.code, .int .i64 p.grams, .bool p.barred]
theorem cells8 {w : World} {g : Nat} {a0 a1 a2 a3 a4 a5 a6 a7 : Value} {t : TypeId} {fr : Nat × Nat} (h : w.heap[g]? = some (.cells #[a0, a1, a2, a3, a4, a5, a6, a7] t fr)) :
    w.cell? ⟨g, 0, none⟩ = some a0 ∧ w.cell? ⟨g, 1, none⟩ = some a1 ∧ w.cell? ⟨g, 2, none⟩ = some a2 ∧ w.cell? ⟨g, 3, none⟩ = some a3 ∧ w.cell? ⟨g, 4, none⟩ = some a4 ∧ w.cell? ⟨g, 5, none⟩ = some a5 ∧ w.cell? ⟨g, 6, none⟩ = some a6 ∧ w.cell? ⟨g, 7, none⟩ = some a7 :=
  ⟨cell_of_row _ _ 0 _ _ _ h, cell_of_row _ _ 1 _ _ _ h, cell_of_row _ _ 2 _ _ _ h, cell_of_row _ _ 3 _ _ _ h, cell_of_row _ _ 4 _ _ _ h, cell_of_row _ _ 5 _ _ _ h, cell_of_row _ _ 6 _ _ _ h, cell_of_row _ _ 7 _ _ _ h⟩
set_option maxHeartbeats 8000000 in
theorem takes_any {F n c : Nat} {a : Option Addr} {lvl gr : Int} {nm : ByteArray} {k : Pck} {p : Pce} {w : World} (h : w.heap[F]? = some (filC lvl nm (.slice a n c) gr k)) (hn : n ≤ 1000000) (hg : 0 ≤ gr ∧ gr ≤ 100000000) (hp : 0 ≤ p.grams ∧ p.grams ≤ 100000) :
    Calls Tryz.prog 56 #[.pointer (some ⟨F, 0, none⟩), pceV p] w fun e w' => e = .returned (.bool (decide ((n : Int) < k.pieces) && decide (gr + p.grams ≤ k.grams))) ∧ Below w.heap.size w w' := by
  obtain ⟨id, pt, code, g, bd⟩ := p
  unfold pceV
  dsimp only at *
  have hF : F < w.heap.size := (Array.getElem?_eq_some_iff.1 h).1
  obtain ⟨w0, hw0⟩ : ∃ w0, w0 = w.alloc (.cells #[.int .i64 id, .int .i64 pt, .string code, .int .i64 g, .bool bd] 45) := ⟨_, rfl⟩
  have hb0 : Below w.heap.size w w0 := by rw [hw0]; exact (Below.refl _ w).alloc (Nat.le_refl _) _
  have h0 : w0.heap[F]? = some (filC lvl nm (.slice a n c) gr k) := (hb0.block _ hF).trans h
  unfold filC at h0
  obtain ⟨c0, c1, c2, c3, c4, c5, c6, c7⟩ := cells8 h0
  have p3 : w0.cell? ⟨w.heap.size, 3, none⟩ = some (.int .i64 g) := by
    rw [hw0]; exact cell_of_row _ _ 3 _ _ _ (alloc_new w _)
  have C2 := cells_in c2
  have C3 := cells_in c3
  have C4 := cells_in c4
  have C5 := cells_in c5
  have P3 := cells_in p3
  obtain ⟨kp, hkp⟩ : ∃ z, z = k.pieces := ⟨_, rfl⟩
  obtain ⟨kg, hkg⟩ : ∃ z, z = k.grams := ⟨_, rfl⟩
  rw [← hkp] at C4 ⊢
  rw [← hkg] at C5 ⊢
  have HW0 := Lib.hid hw0
  have HB0 := Lib.hid hb0
  clear hkp hkg h h0 c0 c1 c2 c3 c4 c5 c6 c7 p3 hw0 hb0
  by_cases q1 : (n : Int) < kp
  · have d1 : decide ((n : Int) < kp) = true := decide_eq_true q1
    by_cases q2 : gr + g ≤ kg
    all_goals
      first
        | have d2 : decide (gr + g ≤ kg) = true := decide_eq_true q2
        | have d2 : decide (gr + g ≤ kg) = false := decide_eq_false q2
      go_enter Tryz.func56, Tryz.ntmps56
      go_upto_region 1 with fail
      rw [← HW0.out]
      refine wp_region_quiet_below (by kernel_rfl) (by kernel_rfl) ?_
      repeat (go_big_quiet_step (fail))
      refine wpQuiet_nil ?_
      intro _ hw'
      obtain ⟨pp, hw''⟩ := hw'
      subst hw''
      go_wp2_with fail
      go_ret
      exact ⟨by simp [d1, d2], HB0.out.trans ((below_in w0 pp).mono HB0.out.size)⟩
  · have d1 : decide ((n : Int) < kp) = false := decide_eq_false q1
    go_enter Tryz.func56, Tryz.ntmps56
    go_upto_region 1 with fail
    rw [← HW0.out]
    refine wp_region_quiet_below (by kernel_rfl) (by kernel_rfl) ?_
    repeat (go_big_quiet_step (fail))
    refine wpQuiet_nil ?_
    intro _ hw'
    obtain ⟨pp, hw''⟩ := hw'
    subst hw''
    go_wp2_with fail
    go_ret
    exact ⟨by simp [d1], HB0.out.trans ((below_in w0 pp).mono HB0.out.size)⟩
theorem fil_set {w : World} {F : Nat} {lvl gr gr' : Int} {nm : ByteArray} {u u' : Value} {k : Pck} (h : w.heap[F]? = some (filC lvl nm u gr k)) :
    (w.setCell ⟨F, 2, none⟩ u').heap[F]? = some (filC lvl nm u' gr k) ∧ (w.setCell ⟨F, 3, none⟩ (.int .i64 gr')).heap[F]? = some (filC lvl nm u gr' k) := by
  unfold filC at *
  constructor <;> simp [World.setCell, Array.getElem?_modify, h]
theorem own_form {w : World} {base : Nat} {e : TypeId} {k n : Nat} {v : Value} {xs : List Value} (h : w.ownsRow base e k v n xs) : ∃ a cap, v = .slice a n cap := by
  rcases Joins.ownsRow_forms h with ⟨rfl, hp⟩ | ⟨g, cap, rfl⟩
  · exact ⟨none, 0, by rw [hp]⟩
  · exact ⟨_, cap, rfl⟩
theorem row_free {w : World} {g i : Nat} {cs : Array Value} {t : TypeId} (h : w.heap[g]? = some (.cells cs t (0, 0))) : w.frozen? ⟨g, i, none⟩ = false := by
  simp [World.frozen?, h]
theorem put_facts {w0 w5 : World} {F PP : Nat} {lvl gr id pt g : Int} {code nm : ByteArray} {bd : Bool} {k : Pck} {x0 vo v' u : Value} (h0 : w0.heap[F]? = some (filC lvl nm u gr k)) (hp0 : w0.heap[PP]? = some (.cells #[.int .i64 id, .int .i64 pt, .string code, .int .i64 g, .bool bd] 45 (0, 0)))
    (hnF : ∀ g, vo.ownBlock = some g → ∀ cur fr, w0.heap[g]? ≠ some (.cells cur 122 fr)) (hnP : ∀ g, vo.ownBlock = some g → ∀ cur fr, w0.heap[g]? ≠ some (.cells cur 45 fr))
    (hg : (w0.drew.alloc (.cells #[x0] 3)).grownBy w5 vo.ownBlock) (hne : PP ≠ F) :
    (w5.heap[F]? = some (filC lvl nm u gr k)) ∧ w5.cell? ⟨F, 2, none⟩ = some u ∧ (w5.setCell ⟨F, 2, none⟩ v').cell? ⟨F, 3, none⟩ = some (.int .i64 gr) ∧ (w5.setCell ⟨F, 2, none⟩ v').cell? ⟨PP, 3, none⟩ = some (.int .i64 g) ∧ w5.frozen? ⟨F, 2, none⟩ = false ∧ (w5.setCell ⟨F, 2, none⟩ v').frozen? ⟨F, 3, none⟩ = false := by
  have hF : F < w0.heap.size := (Array.getElem?_eq_some_iff.1 h0).1
  have hP : PP < w0.heap.size := (Array.getElem?_eq_some_iff.1 hp0).1
  have b1 : Below w0.heap.size w0 (w0.drew.alloc (.cells #[x0] 3)) := (Below.refl _ w0).drew.alloc (Nat.le_refl _) _
  have hz : (w0.drew.alloc (.cells #[x0] 3)).heap.size = w0.heap.size + 1 := by rw [World.size_alloc]; rfl
  have f5 : w5.heap[F]? = some (filC lvl nm u gr k) := (hg.block F (by omega) (fun e => hnF F e.symm _ _ h0)).trans ((b1.block _ hF).trans h0)
  have p5 : w5.heap[PP]? = some (.cells #[.int .i64 id, .int .i64 pt, .string code, .int .i64 g, .bool bd] 45 (0, 0)) := (hg.block PP (by omega) (fun e => hnP PP e.symm _ _ hp0)).trans ((b1.block _ hP).trans hp0)
  have f6 := (fil_set (u' := v') (gr' := gr) f5).1
  have p6 : (w5.setCell ⟨F, 2, none⟩ v').heap[PP]? = some (.cells #[.int .i64 id, .int .i64 pt, .string code, .int .i64 g, .bool bd] 45 (0, 0)) := ((set_grown w5 ⟨F, 2, none⟩ v').block PP (Array.getElem?_eq_some_iff.1 p5).1 (fun e => hne (Option.some.inj e))).trans p5
  refine ⟨f5, ?_, ?_, ?_, row_free f5, row_free f6⟩
  · unfold filC at f5; exact cell_of_row _ _ 2 _ _ _ f5
  · unfold filC at f6; exact cell_of_row _ _ 3 _ _ _ f6
  · exact cell_of_row _ _ 3 _ _ _ p6
set_option maxHeartbeats 8000000 in
theorem put_any {F b n : Nat} {lvl gr : Int} {nm : ByteArray} {k : Pck} {p : Pce} {u : Value} {ids : List Int} {w : World} (h : w.heap[F]? = some (filC lvl nm u gr k)) (hu : w.ownsRow b 3 1 u n (ids.map (Value.int .i64))) (hFb : b ≤ F) (hb : b ≤ w.heap.size)
    (hn : n ≤ 1000000) (hg : 0 ≤ gr ∧ gr ≤ 100000000) (hp : 0 ≤ p.grams ∧ p.grams ≤ 100000) :
    Calls Tryz.prog 57 #[.pointer (some ⟨F, 0, none⟩), pceV p] w fun e w' => (∃ r, e = .returned r) ∧ Below b w w' ∧ ∃ u', w'.heap[F]? = some (filC lvl nm u' (gr + p.grams) k) ∧ w'.ownsRow b 3 1 u' (n + 1) ((ids ++ [p.id]).map (Value.int .i64)) := by
  obtain ⟨id, pt, code, g, bd⟩ := p
  unfold pceV
  dsimp only at *
  obtain ⟨i0, hi⟩ := info_parts Tryz.infoI
  have HI := Lib.hid hi
  have hF : F < w.heap.size := (Array.getElem?_eq_some_iff.1 h).1
  obtain ⟨w0, hw0⟩ : ∃ w0, w0 = w.alloc (.cells #[.int .i64 id, .int .i64 pt, .string code, .int .i64 g, .bool bd] 45) := ⟨_, rfl⟩
  have hz0 : w0.heap.size = w.heap.size + 1 := by rw [hw0, World.size_alloc]
  have hbb : Below w.heap.size w w0 := by rw [hw0]; exact (Below.refl _ w).alloc (Nat.le_refl _) _
  have hb0 : Below b w w0 := hbb.mono hb
  have h0 : w0.heap[F]? = some (filC lvl nm u gr k) := (hbb.block _ hF).trans h
  have hu0 := row_belowT hu hbb
  have hp0 : w0.heap[w.heap.size]? = some (.cells #[.int .i64 id, .int .i64 pt, .string code, .int .i64 g, .bool bd] 45 (0, 0)) := by rw [hw0]; exact alloc_new w _
  have p0 : w0.cell? ⟨w.heap.size, 0, none⟩ = some (.int .i64 id) := cell_of_row _ _ 0 _ _ _ hp0
  obtain ⟨a, cap, rfl⟩ := own_form hu0
  have hpF : w.heap.size ≠ F := by omega
  have hwf : F < w0.heap.size := by omega
  have hwp : w.heap.size < w0.heap.size := by omega
  have HW0 := Lib.hid hw0
  have HB0 := Lib.hid hb0
  have HZ0 := Lib.hid hz0
  have HU0 := Lib.hid hu0
  have HH0 := Lib.hid h0
  have HP0 := Lib.hid hp0
  unfold filC at h0
  obtain ⟨c0, c1, c2, c3, c4, c5, c6, c7⟩ := cells8 h0
  clear hz0 h hu hu0 hi h0 hp0 hbb hb0 hw0 c0 c1 c3 c4 c5 c6 c7
  go_enter Tryz.func57, Tryz.ntmps57
  go_upto_region 1 with fail
  rw [← HW0.out]
  go_region_law (first | (refine step_append_lies _ (by rfl) _ _ _ (by rfl) b 3 i0 (.int .i64 0) 1 8 Tryz.underlying30 HI.out.1 HI.out.2.1 HI.out.2.2.1 HI.out.2.2.2 rfl (by decide) (.slice a n cap) n _ (by rfl) (HU0.out.drew.alloc _) ⟨w0.heap.size, 0, none⟩ 1 1 [.int .i64 id] (by rfl) (by rfl) (cells_new _ _ _) (by simp [Value.oneCell']) (by omega) (by unfold maxLen; omega) (by omega) (by have := HZ0.out; simp; omega) _ rfl ?_; intro a5 cap5 w5 hown' hgrow _ _; obtain ⟨H5, s2, s3, s3p, z2, z3⟩ := put_facts (w0 := w0) (w5 := w5) (F := F) (PP := w.heap.size) (x0 := .int .i64 id) (vo := .slice a n cap) (v' := .slice (some ⟨a5, 0, none⟩) (n + 1) cap5) HH0.out HP0.out (own_not HU0.out (T := 122) (by decide)) (own_not HU0.out (T := 45) (by decide)) hgrow hpF; obtain ⟨W6, hW6⟩ : ∃ W6, W6 = w5.setCell ⟨F, 2, none⟩ (.slice (some ⟨a5, 0, none⟩) (n + 1) cap5) := ⟨_, rfl⟩; rw [← hW6] at s3 s3p z3; have HW6 := Lib.hid hW6; have H5 := Lib.hid H5; clear hW6))
  all_goals
    go_wp2_with fail
    rw [← HW6.out]
    go_still_tail 11, (by kernel_rfl)
    change wpList _ _ _ _ _ W6.drew
    go_wp2_with fail
    go_end0
    have hF6 : W6.heap[F]? = some (filC lvl nm (.slice (some ⟨a5, 0, none⟩) (n + 1) cap5) gr k) := by rw [HW6.out]; exact (fil_set (gr' := gr) H5.out).1
    refine ⟨⟨_, rfl⟩, ?_, _, (fil_set (u' := .slice none 0 0) hF6).2, ?_⟩
    · have hz := HZ0.out
      have b1 : Below b w w5 := (HB0.out.drew.alloc (by show b ≤ w0.heap.size; omega) _).grown hgrow (by rw [World.size_alloc]; show b ≤ w0.heap.size + 1; omega) (fun r e => (HU0.out.lt r e).1)
      have b2 : Below b w W6 := by rw [HW6.out]; exact b1.setCell (p := ⟨F, 2, none⟩) hFb _
      exact (b2.setCell (p := ⟨F, 3, none⟩) hFb _).drew
    · have o5 : w5.ownsRow b 3 1 (.slice (some ⟨a5, 0, none⟩) (n + 1) cap5) (n + 1) ((ids ++ [id]).map (Value.int .i64)) := by rw [List.map_append]; exact hown'
      have hne : a5 ≠ F := fun e => own_not o5 (T := 122) (by decide) a5 rfl _ _ (by rw [e]; exact H5.out)
      have o6 : W6.ownsRow b 3 1 (.slice (some ⟨a5, 0, none⟩) (n + 1) cap5) (n + 1) ((ids ++ [id]).map (Value.int .i64)) := by
        rw [HW6.out]; exact o5.kept (set_grown _ _ _) (.inr (fun e => hne (Option.some.inj e)))
      exact (o6.kept (set_grown _ ⟨F, 3, none⟩ _) (.inr (fun e => hne (Option.some.inj e)))).drew
end Go.Proofs.YtelklmdlodgdpaaGreat
