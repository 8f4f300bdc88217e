/-
  manifest.state: where Postage returns the postage.
-/
import Derived.Test.YtojedplbhialpaaGreatDoorGN
import Derived.Test.YtojedplbhialpaaGreatDoorGP
import Derived.Deep.AppendLies
import Derived.Deep.RegionLaw
import Derived.Deep.RegionHeld3
import Derived.Deep.DrawnRows
import Derived.BigRegion
import Derived.Deep.DeepCutAuto
namespace Go.Proofs.YtojedplbhialpaaGreatDoor
open Go.RowKit Go.Sort
set_option linter.unusedVariables false
set_option maxRecDepth 100000
abbrev sets18 (w : World) (g : Nat) (b1 b2 b3 b4 b5 b6 b7 b8 : Value) : World := ((((((((w.setCell ⟨g, 1, none⟩ b1).setCell ⟨g, 2, none⟩ b2).setCell ⟨g, 3, none⟩ b3).setCell ⟨g, 4, none⟩ b4).setCell ⟨g, 5, none⟩ b5).setCell ⟨g, 6, none⟩ b6).setCell ⟨g, 7, none⟩ b7).setCell ⟨g, 8, none⟩ b8)
theorem set18 {w : World} {g : Nat} {a0 a1 a2 a3 a4 a5 a6 a7 a8 a9 a10 a11 b1 b2 b3 b4 b5 b6 b7 b8 : Value} {t : TypeId} {fr : Nat × Nat} (h : w.heap[g]? = some (.cells #[a0, a1, a2, a3, a4, a5, a6, a7, a8, a9, a10, a11] t fr)) :
    (sets18 w g b1 b2 b3 b4 b5 b6 b7 b8).heap[g]? = some (.cells #[a0, b1, b2, b3, b4, b5, b6, b7, b8, a9, a10, a11] t fr) := by
  simp [sets18, World.setCell, Array.getElem?_modify, h]
theorem set18_gb (w : World) (g : Nat) (b1 b2 b3 b4 b5 b6 b7 b8 : Value) : w.grownBy (sets18 w g b1 b2 b3 b4 b5 b6 b7 b8) (some g) :=
  ((((((((gb_setCell w ⟨g, 1, none⟩ b1).trans (gb_setCell _ ⟨g, 2, none⟩ b2)).trans (gb_setCell _ ⟨g, 3, none⟩ b3)).trans (gb_setCell _ ⟨g, 4, none⟩ b4)).trans (gb_setCell _ ⟨g, 5, none⟩ b5)).trans (gb_setCell _ ⟨g, 6, none⟩ b6)).trans (gb_setCell _ ⟨g, 7, none⟩ b7)).trans (gb_setCell _ ⟨g, 8, none⟩ b8))
theorem far_set {w : World} {b j b' j' : Nat} {v : Value} (h : b ≠ b') : (w.setCell ⟨b, j, none⟩ v).cell? ⟨b', j', none⟩ = w.cell? ⟨b', j', none⟩ := World.cell?_setCell_far _ _ _ _ h
theorem drew_c {w : World} {a : Addr} : w.drew.cell? a = w.cell? a := rfl
theorem gb_dr {a b : World} {r : Option Nat} (h : a.grownBy b r) : a.grownBy b.drew r := ⟨h.os, h.tape, h.output, h.size, h.block⟩
abbrev sets9 (w : World) (g : Nat) (b9 b10 b11 : Value) : World := ((w.setCell ⟨g, 9, none⟩ b9).setCell ⟨g, 10, none⟩ b10).setCell ⟨g, 11, none⟩ b11
theorem set9t {w : World} {g : Nat} {a0 a1 a2 a3 a4 a5 a6 a7 a8 a9 a10 a11 b9 b10 b11 : Value} {t : TypeId} {fr : Nat × Nat} (h : w.heap[g]? = some (.cells #[a0, a1, a2, a3, a4, a5, a6, a7, a8, a9, a10, a11] t fr)) :
    (sets9 w g b9 b10 b11).heap[g]? = some (.cells #[a0, a1, a2, a3, a4, a5, a6, a7, a8, b9, b10, b11] t fr) := by
  simp [sets9, World.setCell, Array.getElem?_modify, h]
theorem set9_gb (w : World) (g : Nat) (b9 b10 b11 : Value) : w.grownBy (sets9 w g b9 b10 b11).drew (some g) :=
  gb_dr (((gb_setCell w ⟨g, 9, none⟩ b9).trans (gb_setCell _ ⟨g, 10, none⟩ b10)).trans (gb_setCell _ ⟨g, 11, none⟩ b11))
def lineO : Obj := .cells #[.int .i64 0, .int .i64 0, .int .i64 0, .int .i64 0, .int .i64 0, .int .i64 0, .int .i64 0, .int .i64 0] 42
abbrev lnR (g b c r : Int) : Array Value := #[.int .i64 0, .int .i64 1, .int .i64 0, .int .i64 g, .int .i64 b, .int .i64 0, .int .i64 c, .int .i64 r]
noncomputable def ops12 : Array Oper := (Tryz.f44.body.bind (regionOf 12)).getD #[]
set_option linter.unusedSimpArgs false in
set_option maxHeartbeats 4000000 in
/-- Region 12: a piece's line in a box of its own. -/
theorem reg12 (a : Act) (w : World) (Q : Exit → Act → World → Prop) {PB G1 n1 c1 G2 n2 c2 gz oz zl cn gl ol ll lc k u : Nat} {g b c r : Int} (hsz : 80 ≤ a.tmps.size) (hQ : ∀ c (a : Act) (d : Nat) (v : Value) w, Q (.panic c) (a.put (some d) v) w → Q (.panic c) a w)
    (h1 : a.eval (.tmp 1) = .slice (some ⟨gl, ol, none⟩) ll lc) (h3 : a.eval (.tmp 3) = .slice (some ⟨gz, oz, none⟩) zl cn) (h12 : a.eval (.tmp 12) = .slice (some ⟨G1, 0, none⟩) n1 c1) (h14 : a.eval (.tmp 14) = .slice (some ⟨G2, 0, none⟩) n2 c2) (h17 : a.eval (.tmp 17) = .int .i64 k) (h18 : a.eval (.tmp 18) = .pointer (some ⟨PB, 0, none⟩))
    (hk : k < zl) (hk1 : k < n1) (hk2 : k < n2) (hu : u < ll)
    (hc : ∀ w' : World, Below w.heap.size w w' → w'.cell? ⟨PB, 3, none⟩ = some (.int .i64 g) ∧ w'.cell? ⟨G2, k, none⟩ = some (.int .i64 b) ∧ w'.cell? ⟨gz, oz + k, none⟩ = some (.int .i64 u) ∧ w'.cell? ⟨gl, ol + u * 5 + 4, none⟩ = some (.int .i64 c) ∧ w'.cell? ⟨G1, k, none⟩ = some (.int .i64 r))
    (hend : ∀ a' W, a'.tmps.size = a.tmps.size → (∀ n : Nat, n ≠ 19 ∧ (n < 60 ∨ 79 ≤ n) → a'.eval (.tmp n) = a.eval (.tmp n)) → a'.defers = a.defers → a'.eval (.tmp 19) = .pointer (some ⟨w.heap.size, 0, none⟩) → Below w.heap.size w W → W.heap.size = w.heap.size + 1 → W.heap[w.heap.size]? = some (.cells (lnR g b c r) 42 (0, 0)) → Q .normal a' W) :
    (Code.region 12 ops12 true).wp Tryz.prog Q a w := by
  have hs61 : 61 < a.tmps.size := (by omega)
  have hs65 : 65 < a.tmps.size := (by omega)
  have hs73 : 73 < a.tmps.size := (by omega)
  have hs77 : 77 < a.tmps.size := (by omega)
  conv =>
    pattern ops12
    unfold ops12
    whnf
  refine wp_region_held_drew (S := fun w' => Below w.heap.size w w') (by kernel_rfl) ((Below.refl _ w).drew) (fun hHeld => ?_)
  refine takeL 0 60 (.pointer (some ⟨PB, 3, none⟩)) rfl hQ hHeld ?_ ?_; rotate_left
  refine takeL 1 61 (.int .i64 g) rfl hQ hHeld ?_ ?_; rotate_left
  refine takeL 2 62 (.slice (some ⟨G2, 0, none⟩) n2 c2) rfl hQ hHeld ?_ ?_; rotate_left
  refine takeL 3 63 (.int .i64 k) rfl hQ hHeld ?_ ?_; rotate_left
  refine takeL 4 64 (.pointer (some ⟨G2, k, none⟩)) rfl hQ hHeld ?_ ?_; rotate_left
  refine takeL 5 65 (.int .i64 b) rfl hQ hHeld ?_ ?_; rotate_left
  refine takeL 6 66 (.slice (some ⟨gl, ol, none⟩) ll lc) rfl hQ hHeld ?_ ?_; rotate_left
  refine takeL 7 67 (.slice (some ⟨gz, oz, none⟩) zl cn) rfl hQ hHeld ?_ ?_; rotate_left
  refine takeL 8 68 (.int .i64 k) rfl hQ hHeld ?_ ?_; rotate_left
  refine takeL 9 69 (.pointer (some ⟨gz, oz + k, none⟩)) rfl hQ hHeld ?_ ?_; rotate_left
  refine takeL 10 70 (.int .i64 u) rfl hQ hHeld ?_ ?_; rotate_left
  refine takeL 11 71 (.pointer (some ⟨gl, ol + u * 5, none⟩)) rfl hQ hHeld ?_ ?_; rotate_left
  refine takeL 12 72 (.pointer (some ⟨gl, ol + u * 5 + 4, none⟩)) rfl hQ hHeld ?_ ?_; rotate_left
  refine takeL 13 73 (.int .i64 c) rfl hQ hHeld ?_ ?_; rotate_left
  refine takeL 14 74 (.slice (some ⟨G1, 0, none⟩) n1 c1) rfl hQ hHeld ?_ ?_; rotate_left
  refine takeL 15 75 (.int .i64 k) rfl hQ hHeld ?_ ?_; rotate_left
  refine takeL 16 76 (.pointer (some ⟨G1, k, none⟩)) rfl hQ hHeld ?_ ?_; rotate_left
  refine takeL 17 77 (.int .i64 r) rfl hQ hHeld ?_ ?_; rotate_left
  refine takeL 18 78 (.agg (lnR g b c r)) rfl hQ hHeld ?_ ?_; rotate_left
  · refine wpAnyH_ready (rs := [19]) (by kernel_rfl) (by simp) ?_
    refine ready_value ⟨some 19, .alloc 42, _, _, _, none⟩ (.pointer (some ⟨w.heap.size, 0, none⟩)) (w.drew.alloc lineO) rfl rfl ?_ ((Below.refl _ w).drew.alloc (Nat.le_refl _) _) ?_ AllReadyH.nil
    · simp (disch := (first | omega | (simp only [size_put]; omega))) only [execOp, eval_put_ne, eval_put_eq, h1, h3, h12, h14, h17, h18]
      try go_simp
      try rfl
    obtain ⟨W, hW⟩ : ∃ W, W = w.drew.alloc lineO := ⟨_, rfl⟩
    have hb : Below w.heap.size w W := by rw [hW]; exact (Below.refl _ w).drew.alloc (Nat.le_refl _) _
    have hz : W.heap[w.heap.size]? = some lineO := by rw [hW]; exact alloc_new w.drew _
    have hs : W.heap.size = w.heap.size + 1 := by rw [hW]; simp
    rw [← hW]
    have hst : (storeVar 42 ⟨w.heap.size, 0, none⟩ (.agg (lnR g b c r))).run Tryz.prog W = .ok () (W.setRow w.heap.size (lnR g b c r)) := by
      have hz2 := hz
      unfold lineO at hz2
      refine run_storeVar_row W w.heap.size 42 42 _ _ hz2 (by kernel_rfl) (by rfl) ?_
      simp [Value.oneCell']
    refine wpAnyH_ready (rs := [20]) (by kernel_rfl) (by simp) ?_
    refine ready_skip ⟨none, .store 42 (.tmp 19) (.tmp 78), _, _, _, none⟩ (W.setRow w.heap.size (lnR g b c r)) rfl rfl ?_ (below_setRow hb (Nat.le_refl _) _) ?_ AllReadyH.nil
    · simp (disch := (first | omega | (simp only [size_put]; omega))) only [execOp, eval_put_ne, eval_put_eq, h1, h3, h12, h14, h17, h18]
      unfold Instr.storeAt
      simp [Instr.sureAddr, hst, Result.andThen]
    · refine wpAnyH_done (by kernel_rfl) ?_ _
      refine hend _ _ ?_ ?_ ?_ ?_ (below_setRow hb (Nat.le_refl _) _) (by rw [size_setRow]; exact hs) ?_
      · simp only [size_put]
      · intro n hn
        obtain ⟨n19, hn⟩ := hn
        rcases hn with hn | hn
        all_goals (simp (disch := omega) only [eval_put_none, eval_put_ne])
      · simp only [defers_put]
      · simp (disch := (first | omega | (simp only [size_put]; omega))) only [eval_put_none, eval_put_ne, eval_put_eq]
      · unfold lineO at hz
        exact setRow_heap _ _ _ _ _ _ hz
  all_goals
    intro w' hS
    obtain ⟨k1, k2, k3, k4, k5⟩ := hc w' hS
    simp (disch := (first | omega | (simp only [size_put]; omega))) only [execOp, eval_put_ne, eval_put_eq, h1, h3, h12, h14, h17, h18]
    first | rfl | (go_simp; done)
set_option maxHeartbeats 32000000 in
theorem state_ok {ls : List Lev} {m : Mai} {zs : List Int} {bar : Int} {B R : Nat → Int} {vr vz vp vl vn vb vt vc : Value} {nb nt nc : Nat} (w : World)
    (hrp : RdPces w vp m.ps) (hr : RdLevs w vl ls) (hn : RdInts w vn zs) (hvr : ∃ a n c, vr = .slice a n c) (hvz : ∃ a n c, vz = .slice a n c) (hvb : ∃ a c, vb = .slice a nb c) (hvt : ∃ a c, vt = .slice a nt c) (hvc : ∃ a c, vc = .slice a nc c)
    (hnl : m.ps.length ≤ 2000) (hl6 : 1 ≤ ls.length ∧ ls.length ≤ 6) (hzl : zs.length = m.ps.length) (hzs : ∀ x ∈ zs, 0 ≤ x ∧ x < (ls.length : Int)) (hb3 : nb ≤ 100000 ∧ nt ≤ 100000 ∧ nc ≤ 100000)
    (hin : ∀ i, i < m.ps.length → LnIn 1000000 (pcLn m bar B R ls zs i))
    (hpo : ∀ W, Below w.heap.size w W → Calls Tryz.prog 95 #[.agg #[vr, vz], vl, maiV m vp, vn] W fun e w' => ∃ g, e = .returned (.tuple #[.slice (some ⟨g, 0, none⟩) m.ps.length m.ps.length, .int .i64 0]) ∧ Below W.heap.size W w' ∧ W.heap.size ≤ g ∧
      w'.ownsRow W.heap.size 3 1 (.slice (some ⟨g, 0, none⟩) m.ps.length m.ps.length) m.ps.length ((List.range m.ps.length).map (fun i => Value.int .i64 (R i))))
    (hba : ∀ W, Below w.heap.size w W → Calls Tryz.prog 96 #[.agg #[vr, vz], maiV m vp] W fun e w' => ∃ g, e = .returned (.tuple #[.slice (some ⟨g, 0, none⟩) m.ps.length m.ps.length, .int .i64 0]) ∧ Below W.heap.size W w' ∧ W.heap.size ≤ g ∧
      w'.ownsRow W.heap.size 3 1 (.slice (some ⟨g, 0, none⟩) m.ps.length m.ps.length) m.ps.length ((List.range m.ps.length).map (fun i => Value.int .i64 (B i))))
    (hbr : ∀ W, Below w.heap.size w W → Calls Tryz.prog 97 #[.agg #[vr, vz], .int .u8 m.cls] W fun e w' => e = .returned (.int .i64 bar) ∧ Below W.heap.size W w') :
    Calls Tryz.prog 44 #[.agg #[vr, vz], vl, maiV m vp, vn, .agg #[vb, vt, vc]] w fun e w' => ∃ v, e = .returned (.tuple #[manA (manOf zs (pcLn m bar B R ls zs) m.ps.length ls.length nb nt nc) v, .int .i64 0]) ∧ Below w.heap.size w w' ∧
      OwnsLn w' w.heap.size v (manOf zs (pcLn m bar B R ls zs) m.ps.length ls.length nb nt nc).lines := by
  obtain ⟨ar, nr, cr, rfl⟩ := hvr
  obtain ⟨az, nz, cz, rfl⟩ := hvz
  obtain ⟨ab, cb, rfl⟩ := hvb
  obtain ⟨at', ct, rfl⟩ := hvt
  obtain ⟨ac, cc, rfl⟩ := hvc
  obtain ⟨ap, cp, rfl, hpc⟩ := hrp
  obtain ⟨al, cl, rfl, hlc⟩ := hr
  obtain ⟨an, cn, rfl, hnc⟩ := hn
  have HPC := Lib.hid hpc
  have HLC := Lib.hid hlc
  have HNC := Lib.hid hnc
  have HZS := Lib.hid hzs
  have HZL := Lib.hid hzl
  have HIN := Lib.hid hin
  have HPO := Lib.hid hpo
  have HBA := Lib.hid hba
  have HBR := Lib.hid hbr
  obtain ⟨t1, t2, t3, t4, t5, t6⟩ := four_new (w := w) (A := .cells #[.slice ar nr cr, .slice az nz cz] 25) (B := .cells #[.int .u8 m.cls, .int .u8 m.ctr, .string m.origin, .slice ap m.ps.length cp] 29) (C := .cells #[.slice ab nb cb, .slice at' nt ct, .slice ac nc cc] 39) (D := manO) rfl
  unfold manO at t1 t2 t3 t4 t5 t6
  obtain ⟨W0, hW0⟩ : ∃ W0, W0 = ((((w.alloc (.cells #[.slice ar nr cr, .slice az nz cz] 25)).alloc (.cells #[.int .u8 m.cls, .int .u8 m.ctr, .string m.origin, .slice ap m.ps.length cp] 29)).alloc (.cells #[.slice ab nb cb, .slice at' nt ct, .slice ac nc cc] 39)).alloc (.cells #[.slice none 0 0, .int .i64 0, .int .i64 0, .int .i64 0, .int .i64 0, .int .i64 0, .int .i64 0, .int .i64 0, .int .i64 0, .int .i64 0, .int .i64 0, .int .i64 0] 44)) := ⟨_, rfl⟩
  rw [← hW0] at t1 t2 t3 t4 t5 t6
  have hmk := fun W => run_make_row' (P := Tryz.prog) 167 40 (.slice none 0 0) 24 Tryz.underlying167 Tryz.infoSL rfl .i64 .i64 ls.length (by omega) (by omega) W
  clear hpc hlc hnc hzs hzl hin hpo hba hbr
  unfold maiV at HPO HBA ⊢
  go_enter Tryz.func44, Tryz.ntmps44
  go_wp2_with (first
    | (go_at_call 97; refine (HBR.out _ k5).mono ?_; rintro e w3 ⟨rfl, hb3'⟩; have l2 := (hb3'.block _ (by omega)).trans k2; have l3 := (hb3'.block _ (by omega)).trans k3; have l4 := (hb3'.block _ (by omega)).trans k4; have l5 := below_c k5 k5.size hb3'; have l6 : w.heap.size + 4 ≤ w3.heap.size := (by have := hb3'.size; omega); have own1 := own1'.kept (grown_none hb3') (Classical.em _); have own2 := hown2.kept (grown_none hb3') (Classical.em _); have hw23 := hb3'.size; clear hb3' k1 k2 k3 k4 k5 own1' hown2 z10 z11 z20; have x23 := cell_of_row _ _ 3 _ _ _ l2; have hlx : w.heap.size + 1 < w3.heap.size := (by omega); have hmk3 := hmk w3)
    | (go_at_call 96; refine (HBA.out _ j5).mono ?_; rintro e w2 ⟨G2, rfl, hb2, hG2, hown2⟩; have k1 := (hb2.block _ (by omega)).trans j1; have k2 := (hb2.block _ (by omega)).trans j2; have k3 := (hb2.block _ (by omega)).trans j3; have k4 := (hb2.block _ (by omega)).trans j4; have k5 := below_c j5 j5.size hb2; have k6 : w.heap.size + 4 ≤ w2.heap.size := (by have := hb2.size; omega); have own1' := hown1.kept (grown_none hb2) (Classical.em _); have hw12 := hb2.size; clear hb2 j1 j2 j3 j4 j5 hown1 y10 y11 y20 y21 y22 y23; have z10 := cell_of_row _ _ 0 _ _ _ k1; have z11 := cell_of_row _ _ 1 _ _ _ k1; have z20 := cell_of_row _ _ 0 _ _ _ k2)
    | (go_at_call 95; rw [← hW0]; refine (HPO.out _ t6).mono ?_; rintro e w1 ⟨G1, rfl, hb1, hG1, hown1⟩; have j1 := (hb1.block _ (by omega)).trans t1; have j2 := (hb1.block _ (by omega)).trans t2; have j3 := (hb1.block _ (by omega)).trans t3; have j4 := (hb1.block _ (by omega)).trans t4; have j5 := below_c t6 t6.size hb1; have j6 : w.heap.size + 4 ≤ w1.heap.size := (by have := hb1.size; omega); clear hb1 t1 t2 t3 t4; have y10 := cell_of_row _ _ 0 _ _ _ j1; have y11 := cell_of_row _ _ 1 _ _ _ j1; have y20 := cell_of_row _ _ 0 _ _ _ j2; have y21 := cell_of_row _ _ 1 _ _ _ j2; have y22 := cell_of_row _ _ 2 _ _ _ j2; have y23 := cell_of_row _ _ 3 _ _ _ j2))
  have HOW1 := Lib.hid own1
  have HOW2 := Lib.hid own2
  have HL3 := Lib.hid l3
  have HL4 := Lib.hid l4
  have HL5 := Lib.hid l5
  have hG1s := (own1.lt G1 rfl).2
  have hG2s := (own2.lt G2 rfl).2
  have hw33 : Below w3.heap.size w3 (w3.alloc (.cells (madeCells #[.slice none 0 0] ls.length) 40)) := (Below.refl _ w3).alloc (Nat.le_refl _) _
  have HW33 := Lib.hid hw33
  have hF0 : LnF (w3.alloc (.cells (madeCells #[.slice none 0 0] ls.length) 40)) (w3.heap.size + 1) w3.heap.size ls.length (partTo zs (pcLn m bar B R ls zs) 0) (fun _ => .slice none 0 0) := LnF.nil (World.rowIs_made w3 _ _ _)
  have HF0 := Lib.hid hF0
  clear own1 own2 l2 l3 l4 l5 x23 hmk3 hmk hw33 hF0 HPO HBA HBR k6 j6 t5 t6 hW0 hG1 hG2
  go_loopw [55] (fun i wr => ∃ (k : Nat) (F : Nat → Value), k ≤ m.ps.length ∧ i = .int .i64 k ∧ Below w3.heap.size w3 wr ∧ w3.heap.size + 1 ≤ wr.heap.size ∧ LnF wr (w3.heap.size + 1) w3.heap.size ls.length (partTo zs (pcLn m bar B R ls zs) k) F) (fun i _ => m.ps.length - (intOf i).toNat)
  case atStart => exact ⟨0, _, Nat.zero_le _, rfl, HW33.out, by simp, HF0.out⟩
  case round =>
    clear HW33 HF0
    obtain ⟨k, F, hk, rfl, hB3, hsz, hF⟩ := hrel
    by_cases hlt : k < m.ps.length
    · have HB3 := Lib.hid hB3
      have HF := Lib.hid hF
      obtain ⟨g, off, rfl, hg, hst⟩ := HPC.out (by omega)
      have hg3 : g < w3.heap.size := by have := HL5.out.size; omega
      have hB0 := HL5.out
      have e1 : ∀ (W : World), Below wr.heap.size wr W → ∀ g o, g < w3.heap.size → W.cell? ⟨g, o, none⟩ = w3.cell? ⟨g, o, none⟩ := fun W hW g o hg => (hW.cell (p := ⟨g, o, none⟩) (by have := hB3.size; show g < wr.heap.size; omega)).trans (hB3.cell (p := ⟨g, o, none⟩) hg)
      have e0 : ∀ g o, g < w.heap.size → w3.cell? ⟨g, o, none⟩ = w.cell? ⟨g, o, none⟩ := fun g o hg => hB0.cell (p := ⟨g, o, none⟩) hg
      obtain ⟨p0, p1, p2, p3, p4⟩ := (hst k hlt).below (hB0.trans (hB3.mono hB0.size)) hg
      have hgr : g < wr.heap.size := by omega
      have hkz : k < zs.length := by rw [HZL.out]; exact hlt
      obtain ⟨gz, oz, rfl, hgz, hzc⟩ := HNC.out (by omega)
      have hzk := hzc k hkz
      obtain ⟨s1, s2⟩ := HZS.out _ (List.getElem_mem hkz)
      obtain ⟨u, hu⟩ : ∃ u : Nat, zs[k] = u := ⟨zs[k].toNat, by omega⟩
      rw [hu] at hzk s2
      have hul : u < ls.length := by omega
      have hzu : zs.getD k (-1) = (u : Int) := by rw [List.getD_eq_getElem?_getD, List.getElem?_eq_getElem hkz]; exact hu
      obtain ⟨gl, ol, rfl, hgl, hlc⟩ := HLC.out (by omega)
      obtain ⟨lv, _, hlat⟩ := hlc u hul
      have hl4 := hlat.2.2.2.2
      have hcu : centL ls (zs.getD k (-1)) = ls[u].cents := by
        unfold centL
        rw [hzu, Int.toNat_natCast, List.getD_eq_getElem?_getD, List.getElem?_eq_getElem hul]; rfl
      have hpk : m.ps.getD k ⟨0, 0, ⟨#[]⟩, 0, false⟩ = m.ps[k] := by rw [List.getD_eq_getElem?_getD, List.getElem?_eq_getElem hlt]; rfl
      have hln : pcLn m bar B R ls zs k = ⟨0, 1, if m.ps[k].barred then 1 else 0, m.ps[k].grams, B k, if m.ps[k].barred then bar else 0, ls[u].cents, R k⟩ := by
        unfold pcLn brdAt
        rw [hcu, hpk]
      have o1 : w3.cell? ⟨G1, k, none⟩ = some (.int .i64 (R k)) := by rw [HOW1.out.cellAt k (by omega), range_at hlt]
      have o2 : w3.cell? ⟨G2, k, none⟩ = some (.int .i64 (B k)) := by rw [HOW2.out.cellAt k (by omega), range_at hlt]
      have HLN := Lib.hid hln
      have hz1 := (e1 wr (Below.refl _ _) gz (oz + k) (by omega)).trans ((e0 gz (oz + k) hgz).trans hzk)
      have hl1 := (e1 wr (Below.refl _ _) gl (ol + u * 5 + 4) (by omega)).trans ((e0 gl (ol + u * 5 + 4) hgl).trans hl4)
      have q1 := (e1 wr (Below.refl _ _) G1 k hG1s).trans o1
      have q2 := (e1 wr (Below.refl _ _) G2 k hG2s).trans o2
      have hgzr : gz < wr.heap.size := by omega
      have hglr : gl < wr.heap.size := by omega
      have hG1r : G1 < wr.heap.size := by omega
      have hG2r : G2 < wr.heap.size := by omega
      have d4 : decide ((k : Int) < (m.ps.length : Int)) = true := decide_eq_true (by omega)
      have HLL := Lib.hid (HIN.out k hlt)
      have hlen := partTo_len zs (pcLn m bar B R ls zs) k u
      have HSAME := Lib.hid (partTo_at zs (pcLn m bar B R ls zs) hzu)
      have HOTHER : Hid (∀ j : Nat, j ≠ u → partTo zs (pcLn m bar B R ls zs) (k + 1) j = partTo zs (pcLn m bar B R ls zs) k j) := fun j hj => partTo_ne zs _ (by rw [hzu]; omega)
      have HE1 := Lib.hid e1
      have HZK := Lib.hid ((e0 gz (oz + k) hgz).trans hzk)
      clear hst hzc hlc hlat hl4 hzk hu hzu hcu hpk hln o1 o2 e1 e0 hB3 hF hB0 s1 HPC HNC HLC HZS HIN
      generalize pcLn m bar B R ls zs k = pk at HLN HLL HSAME
      generalize ls[u] = l at hl1 HLN
      generalize m.ps[k] = p at p0 p1 p2 p3 p4 HLN
      generalize R k = rk at q1 HLN
      generalize B k = bk at q2 HLN
      go_wp2_with fail
      obtain ⟨WP, hWP⟩ : ∃ W, W = wr.alloc (.cells #[.int .i64 p.id, .int .i64 p.point, .string p.code, .int .i64 p.grams, .bool p.barred] 90) := ⟨_, rfl⟩
      have hbP : Below wr.heap.size wr WP := by rw [hWP]; exact (Below.refl _ _).alloc (Nat.le_refl _) _
      have hzP : WP.heap.size = wr.heap.size + 1 := by rw [hWP]; simp
      have hxP := alloc_new wr (.cells #[.int .i64 p.id, .int .i64 p.point, .string p.code, .int .i64 p.grams, .bool p.barred] 90)
      rw [← hWP] at hxP ⊢
      clear hWP
      refine use_region (ops' := ops12) (by kernel_rfl) (reg12 _ WP _ (PB := wr.heap.size) (G1 := G1) (G2 := G2) (gz := gz) (oz := oz) (zl := zs.length) (cn := cn) (gl := gl) (ol := ol) (ll := ls.length) (k := k) (u := u) (g := p.grams) (b := bk) (c := l.cents) (r := rk) (by simp) (fun _ _ _ _ _ h => h) rfl rfl rfl rfl rfl rfl hkz hlt hlt hul ?_ ?_)
      · intro w' hw'
        have hwr' : Below wr.heap.size wr w' := hbP.trans (hw'.mono (by omega))
        exact ⟨cell_of_row _ _ 3 _ _ _ ((hw'.block _ (by omega)).trans hxP), (hwr'.cell (p := ⟨G2, k, none⟩) hG2r).trans q2, (hwr'.cell (p := ⟨gz, oz + k, none⟩) hgzr).trans hz1, (hwr'.cell (p := ⟨gl, ol + u * 5 + 4, none⟩) hglr).trans hl1, (hwr'.cell (p := ⟨G1, k, none⟩) hG1r).trans q1⟩
      intro a' W1 hszA hevA hdfA h19 hbA hzA hxA
      rw [hzP] at h19 hzA hxA
      rw [restore_eq (a' := a') [19, 60, 61, 62, 63, 64, 65, 66, 67, 68, 69, 70, 71, 72, 73, 74, 75, 76, 77, 78] hszA (fun n hn => hevA n (by simp at hn; omega)) hdfA]
      simp only [restore, h19, Act.put, List.setIfInBounds_toArray, List.set_cons_succ, List.set_cons_zero]
      have hp4 : W1.cell? ⟨wr.heap.size, 4, none⟩ = some (.bool p.barred) := cell_of_row _ _ 4 _ _ _ ((hbA.block wr.heap.size (by omega)).trans hxP)
      have hb1 : Below wr.heap.size wr W1 := hbP.trans (hbA.mono (by omega))
      have hzz1 : W1.heap.size = wr.heap.size + 2 := by omega
      clear hszA hevA hdfA h19 hbA hzA hbP hzP hxP
      go_upto_if 80 with fail
      have HB1 := Lib.hid hb1
      have HZZ1 := Lib.hid hzz1
      have HX1 := Lib.hid hxA
      clear hp4 q1 q2 hz1 hl1 p0 p1 p2 p3 p4 hb1 hzz1 hxA hG1s hG2s hG1r hG2r hglr hgr hgzr
      go_cut [] from 59 to 83 (fun wx => Below wr.heap.size wr wx ∧ wx.heap.size = wr.heap.size + 2 ∧ ∃ b1 b2 : Int, Hid (pk = ⟨0, 1, b1, p.grams, bk, b2, l.cents, rk⟩) ∧ wx.heap[wr.heap.size + 1]? = some (.cells #[.int .i64 0, .int .i64 1, .int .i64 b1, .int .i64 p.grams, .int .i64 bk, .int .i64 b2, .int .i64 l.cents, .int .i64 rk] 42 (0, 0)))
      case first =>
        have f2 := not_frozen (j := 2) HX1.out
        have f5 := not_frozen (j := 5) HX1.out
        have c2 := cell_of_row _ _ 2 _ _ _ HX1.out
        have c5 := cell_of_row _ _ 5 _ _ _ HX1.out
        cases hbd : p.barred
        · rw [hbd] at HLN
          go_wp2_with fail
          go_meet
          exact ⟨HB1.out, HZZ1.out, 0, 0, HLN.out, HX1.out⟩
        · rw [hbd] at HLN
          go_wp2_with fail
          go_meet
          refine ⟨(HB1.out.setCell (p := ⟨wr.heap.size + 1, 2, none⟩) (Nat.le_succ _) _).setCell (p := ⟨wr.heap.size + 1, 5, none⟩) (Nat.le_succ _) _, by simp [World.setCell]; exact HZZ1.out, 1, bar, HLN.out, ?_⟩
          have h := HX1.out
          simp [World.setCell, Array.getElem?_modify, h]
      case rest =>
        obtain ⟨hb2, hzz2, b1, b2, HPK, hx2⟩ := hcut
        obtain ⟨W2, hW2⟩ : ∃ W2, W2 = wc := ⟨_, rfl⟩
        subst hW2
        clear HB1 HZZ1 HX1 HLN
        go_wp2_with fail
        have HPK2 := HPK
        have HZ2 := Lib.hid hzz2
        have HX2 := Lib.hid hx2
        clear hzz2 HPK
        have hz := (HE1.out W2 hb2 gz (oz + k) (by have := HL5.out.size; omega)).trans HZK.out
        have hsame : ∀ w' : World, w'.heap[gz]? = W2.heap[gz]? → w'.heap[wr.heap.size + 1]? = W2.heap[wr.heap.size + 1]? → w'.cell? ⟨gz, oz + k, none⟩ = some (.int .i64 u) ∧ w'.cell? ⟨wr.heap.size + 1, 0, none⟩ = some (.int .i64 0) ∧ w'.cell? ⟨wr.heap.size + 1, 1, none⟩ = some (.int .i64 1) ∧ w'.cell? ⟨wr.heap.size + 1, 2, none⟩ = some (.int .i64 b1) ∧ w'.cell? ⟨wr.heap.size + 1, 3, none⟩ = some (.int .i64 p.grams) ∧ w'.cell? ⟨wr.heap.size + 1, 4, none⟩ = some (.int .i64 bk) ∧ w'.cell? ⟨wr.heap.size + 1, 5, none⟩ = some (.int .i64 b2) ∧ w'.cell? ⟨wr.heap.size + 1, 6, none⟩ = some (.int .i64 l.cents) ∧ w'.cell? ⟨wr.heap.size + 1, 7, none⟩ = some (.int .i64 rk) := fun w' h1 h2 => by
          have h3 := h2.trans HX2.out
          exact ⟨(World.cell?_of_block (w := W2) h1).trans hz, cell_of_row _ _ 0 _ _ _ h3, cell_of_row _ _ 1 _ _ _ h3, cell_of_row _ _ 2 _ _ _ h3, cell_of_row _ _ 3 _ _ _ h3, cell_of_row _ _ 4 _ _ _ h3, cell_of_row _ _ 5 _ _ _ h3, cell_of_row _ _ 6 _ _ _ h3, cell_of_row _ _ 7 _ _ _ h3⟩
        have HSM := Lib.hid hsame
        have hF2 := HF.out.below hb2
        have hcu := hF2.row.cell hul
        have hfz := hF2.row.frozen u
        have hown := hF2.own u hul
        obtain ⟨Fu, hFu⟩ : ∃ f, f = F u := ⟨_, rfl⟩
        have hform : ∃ fa fc, Fu = .slice fa (partTo zs (pcLn m bar B R ls zs) k u).length fc := by
          rw [hFu]
          rcases Joins.ownsRow_forms hown with ⟨e, hp⟩ | ⟨gf, cf, e⟩
          · exact ⟨none, 0, by rw [e, hp]⟩
          · exact ⟨_, cf, e⟩
        rw [← hFu] at hcu hown
        have HFU := Lib.hid hFu
        obtain ⟨fa, fc, rfl⟩ := hform
        obtain ⟨bn, hbn⟩ : ∃ n, n = (partTo zs (pcLn m bar B R ls zs) k u).length := ⟨_, rfl⟩
        rw [← hbn] at hcu hown HFU hlen
        have HBN := Lib.hid hbn
        have HOWN := Lib.hid hown
        have HB2 := Lib.hid hb2
        have hlb : w3.heap.size < W2.heap.size := by have := hb2.size; omega
        have hgz2 : gz < W2.heap.size := by have := hb2.size; omega
        have hwr2 : wr.heap.size + 1 < W2.heap.size := (Array.getElem?_eq_some_iff.1 hx2).1
        obtain ⟨i0, hi⟩ := info_parts Tryz.infoLine
        have HI := Lib.hid hi
        have hba : Below W2.heap.size W2 (W2.drew.alloc (.cells #[.int .i64 0, .int .i64 1, .int .i64 b1, .int .i64 p.grams, .int .i64 bk, .int .i64 b2, .int .i64 l.cents, .int .i64 rk] 42)) := (Below.refl W2.heap.size W2).drew.alloc (Nat.le_refl _) _
        have HBA := Lib.hid hba
        have hcu2 : (W2.alloc (.cells #[.int .i64 0, .int .i64 1, .int .i64 b1, .int .i64 p.grams, .int .i64 bk, .int .i64 b2, .int .i64 l.cents, .int .i64 rk] 42)).cell? ⟨w3.heap.size, u, none⟩ = some (.slice fa bn fc) := (hba.cell (p := ⟨w3.heap.size, u, none⟩) hlb).trans hcu
        have hkeep : Hid (∀ w9 : World, (W2.drew.alloc (.cells #[.int .i64 0, .int .i64 1, .int .i64 b1, .int .i64 p.grams, .int .i64 bk, .int .i64 b2, .int .i64 l.cents, .int .i64 rk] 42)).grownBy w9 (Value.slice fa bn fc).ownBlock → ∀ b, b < w3.heap.size + 1 ∨ b = wr.heap.size + 1 ∧ (Value.slice fa bn fc).ownBlock ≠ some b → w9.heap[b]? = W2.heap[b]?) := fun w9 hg b hb =>
          (hg.block _ (by show b < (W2.drew.alloc _).heap.size; rw [World.size_alloc]; show b < W2.heap.size + 1; rcases hb with h | h <;> omega) (fun e => by
            rcases hb with h | h
            · have := (HOWN.out.lt _ e.symm).1; omega
            · exact h.2 e.symm)).trans (HBA.out.block _ (by rcases hb with h | h <;> omega))
        have hno : (Value.slice fa bn fc).ownBlock ≠ some (wr.heap.size + 1) := fun e => by
          have h1 := (HF.out.own u hul).lt (wr.heap.size + 1) (by rw [← HFU.out]; exact e)
          omega
        have HNO := Lib.hid hno
        clear hFu hbn hown hF2 hb2 hx2 hi hsame hba hz hno
        have hgz3 : gz < w3.heap.size := by have := HL5.out.size; omega
        have hgz4 : gz ≠ w3.heap.size := by omega
        have hwr3 : wr.heap.size + 1 ≠ w3.heap.size := by omega
        have hwr4 : w3.heap.size < w3.heap.size + 1 := Nat.lt_succ_self _
        have hgz5 : gz < w3.heap.size + 1 := by omega
        have hone : ∀ v ∈ [Value.int .i64 0, Value.int .i64 1, Value.int .i64 b1, Value.int .i64 p.grams, Value.int .i64 bk, Value.int .i64 b2, Value.int .i64 l.cents, Value.int .i64 rk], v.oneCell' = true := by simp [Value.oneCell']
        have hkp2 : ∀ w9 : World, (W2.drew.alloc (.cells #[.int .i64 0, .int .i64 1, .int .i64 b1, .int .i64 p.grams, .int .i64 bk, .int .i64 b2, .int .i64 l.cents, .int .i64 rk] 42)).grownBy w9 (Value.slice fa bn fc).ownBlock → w9.heap[gz]? = W2.heap[gz]? ∧ w9.heap[wr.heap.size + 1]? = W2.heap[wr.heap.size + 1]? := fun w9 h => ⟨hkeep.out w9 h _ (.inl hgz5), hkeep.out w9 h _ (.inr ⟨rfl, HNO.out⟩)⟩
        refine use_region (ops' := ops15) (by kernel_rfl) (reg15 _ W2 _ (gz := gz) (oz := oz) (zl := zs.length) (cn := cn) (PB := w3.heap.size) (L := ls.length) (k := k) (u := u) (LB := wr.heap.size + 1) (bn := bn) (fc := fc) (fa := fa) (base := w3.heap.size + 1) (by simp) (fun _ _ _ _ _ h => h) rfl rfl rfl rfl hkz hul ?_ hcu hfz hlb hone HOWN.out (by omega) hwr4 (by omega) (fun w9 h => HSM.out _ (hkp2 w9 h).1 (hkp2 w9 h).2) (fun w9 h x => HSM.out _ ((Below.heap_setCell _ _ _ _ hgz4).trans (hkp2 w9 h).1) ((Below.heap_setCell _ _ _ _ hwr3).trans (hkp2 w9 h).2)) ?_)
        · intro w' hw'
          rcases hw' with rfl | rfl
          · exact HSM.out _ rfl rfl
          · exact HSM.out _ (HBA.out.block _ hgz2) (HBA.out.block _ hwr2)
        intro a' g9 cap9 w9 hsz9 hev9 hdf9 hown9 hgrow hat9
        rw [restore_eq (a' := a') [84, 85, 86, 87, 88, 89, 90, 91, 92, 93, 94, 95, 96, 97, 98, 99] hsz9 (fun n hn => hev9 n (by simp at hn; omega)) hdf9]
        generalize Act.eval a' (.tmp 84) = u84
        generalize Act.eval a' (.tmp 85) = u85
        generalize Act.eval a' (.tmp 86) = u86
        generalize Act.eval a' (.tmp 87) = u87
        generalize Act.eval a' (.tmp 88) = u88
        generalize Act.eval a' (.tmp 89) = u89
        generalize Act.eval a' (.tmp 90) = u90
        generalize Act.eval a' (.tmp 91) = u91
        generalize Act.eval a' (.tmp 92) = u92
        generalize Act.eval a' (.tmp 93) = u93
        generalize Act.eval a' (.tmp 94) = u94
        generalize Act.eval a' (.tmp 95) = u95
        generalize Act.eval a' (.tmp 96) = u96
        generalize Act.eval a' (.tmp 97) = u97
        generalize Act.eval a' (.tmp 98) = u98
        generalize Act.eval a' (.tmp 99) = u99
        simp only [restore, Act.put, List.setIfInBounds_toArray, List.set_cons_succ, List.set_cons_zero]
        go_wp2_with fail
        go_roundw
        case rel =>
            have hbx : Below wr.heap.size wr (W2.drew.alloc (.cells #[.int .i64 0, .int .i64 1, .int .i64 b1, .int .i64 p.grams, .int .i64 bk, .int .i64 b2, .int .i64 l.cents, .int .i64 rk] 42)) := HB2.out.trans (HBA.out.mono HB2.out.size)
            have hFx := HF.out.below hbx
            have hg9 : (W2.drew.alloc (.cells #[.int .i64 0, .int .i64 1, .int .i64 b1, .int .i64 p.grams, .int .i64 bk, .int .i64 b2, .int .i64 l.cents, .int .i64 rk] 42)).grownBy w9 (F u).ownBlock := by rw [← HFU.out]; exact hgrow
            have hat : (F u).ownBlock = some g9 ∨ (W2.drew.alloc (.cells #[.int .i64 0, .int .i64 1, .int .i64 b1, .int .i64 p.grams, .int .i64 bk, .int .i64 b2, .int .i64 l.cents, .int .i64 rk] 42)).heap.size ≤ g9 := by
              rw [← HFU.out]
              exact hat9.imp id (fun h => by rw [h, World.size_alloc]; exact Nat.le_refl _)
            have ho9 : w9.ownsRow (w3.heap.size + 1) 42 8 (.slice (some ⟨g9, 0, none⟩) ((partTo zs (pcLn m bar B R ls zs) k u).length + 1) cap9) ((partTo zs (pcLn m bar B R ls zs) k u).length + 1) ((partTo zs (pcLn m bar B R ls zs) k u).flatMap lnC ++ lnC pk) := by
              rw [← HBN.out, HPK2.out]; exact hown9
            have hput := hFx.put hul pk (Nat.lt_succ_self _) ho9 hg9 hat
            have hG : (fun i => if i = u then partTo zs (pcLn m bar B R ls zs) k u ++ [pk] else partTo zs (pcLn m bar B R ls zs) k i) = partTo zs (pcLn m bar B R ls zs) (k + 1) := funext fun j => by
              by_cases e : j = u
              · subst e
                rw [if_pos rfl, HSAME.out]
              · rw [if_neg e, HOTHER.out j e]
            rw [hG, ← HBN.out] at hput
            have hlo : ∀ b, (F u).ownBlock = some b → w3.heap.size + 1 ≤ b := fun b hb => ((HF.out.own u hul).lt b hb).1
            have hs9 := hg9.size
            have hsx := hbx.size
            refine ⟨k + 1, _, by omega, by go_num, ((below_c HB3.out HB3.out.size hbx).grown hg9 (by omega) (fun r e => by have := hlo r e; omega)).setCell (p := ⟨w3.heap.size, u, none⟩) (Nat.le_refl _) _, ?_, hput⟩
            simp [World.setCell]; omega
        case measure => simp [intOf]; omega
    · obtain rfl : k = m.ps.length := by omega
      obtain ⟨w4, hw4⟩ : ∃ x, x = wr := ⟨wr, rfl⟩
      subst hw4
      have HB3 := Lib.hid hB3
      have HF := Lib.hid hF
      have HM0 : Hid ((w4.alloc manO).heap[w4.heap.size]? = some manO) := alloc_new w4 _
      have HBM : Hid (Below w4.heap.size w4 (w4.alloc manO)) := (Below.refl _ w4).alloc (Nat.le_refl _) _
      unfold manO at HM0 HBM
      have HSZ := Lib.hid hsz
      have HPS := Lib.hid hnl
      have d4 : decide ((m.ps.length : Int) < (m.ps.length : Int)) = false := decide_eq_false (by omega)
      clear hB3 hF hlt hk HPC HNC HLC HZS HZL HOW1 HOW2 hG1s hG2s
      go_wp2_with fail
      go_loopw [103] (fun i wx => ∃ (j : Nat) (v : Value), j ≤ ls.length ∧ i = .int .i64 j ∧ Below w4.heap.size w4 wx ∧ w4.heap.size + 1 ≤ wx.heap.size ∧ wx.heap[w4.heap.size]? = some (.cells #[v, .int .i64 0, .int .i64 0, .int .i64 0, .int .i64 0, .int .i64 0, .int .i64 0, .int .i64 0, .int .i64 0, .int .i64 0, .int .i64 0, .int .i64 0] 44) ∧ wx.ownsRow (w4.heap.size + 1) 42 8 v j (((List.range j).map (fun (j : Nat) => sumLn (j : Int) (partTo zs (pcLn m bar B R ls zs) m.ps.length j))).flatMap lnC)) (fun i _ => ls.length - (intOf i).toNat)
      case atStart => exact ⟨0, _, Nat.zero_le _, rfl, HBM.out, by simp, HM0.out, World.ownsRow_nil _ _ _ _⟩
      case round =>
        clear HM0 HBM d4
        obtain ⟨j, v, hj, rfl, hbx, hsx, hbox, hO⟩ := hrel
        have HBX := Lib.hid hbx
        have HBOX := Lib.hid hbox
        obtain ⟨va, vc, rfl⟩ := own_form hO
        have HO := Lib.hid hO
        by_cases hjl : j < ls.length
        · have hFx := HF.out.below hbx
          have hcj := hFx.row.cell hjl
          have hrd := OwnsLn.rd (hFx.own j hjl)
          generalize F j = fv at hcj hrd
          have HRD := Lib.hid hrd
          obtain ⟨S, hS⟩ : ∃ S, S = sumLn (j : Int) (partTo zs (pcLn m bar B R ls zs) m.ps.length j) := ⟨_, rfl⟩
          have HADD : Hid (∀ W, Below wr.heap.size wr W → Calls Tryz.prog 98 #[.int .i64 (j : Int), fv] W fun e w' => e = .returned (.agg #[.int .i64 S.level, .int .i64 S.pieces, .int .i64 S.barred, .int .i64 S.grams, .int .i64 S.base, .int .i64 S.bar, .int .i64 S.saved, .int .i64 S.cents]) ∧ Below W.heap.size W w') := fun W hW => by
            have := add_any (m := 1000000) (j : Int) _ fv W (HRD.out.below hW) (partTo_in HIN.out) (by omega) (Nat.le_trans (partTo_len _ _ _ _) (by omega))
            rw [← hS] at this
            exact this
          have HSU : Hid ((List.range (j + 1)).map (fun (j : Nat) => sumLn (j : Int) (partTo zs (pcLn m bar B R ls zs) m.ps.length j)) = ((List.range j).map (fun (j : Nat) => sumLn (j : Int) (partTo zs (pcLn m bar B R ls zs) m.ps.length j))) ++ [S]) := by rw [hS]; show _ = _; rw [List.range_succ, List.map_append]; rfl
          have hbv : ∀ W, Below wr.heap.size wr W → W.cell? ⟨w4.heap.size, 0, none⟩ = some (.slice va j vc) ∧ W.frozen? ⟨w4.heap.size, 0, none⟩ = false := fun W hW => by
            have h1 := (hW.block w4.heap.size (by omega)).trans HBOX.out
            exact ⟨cell_of_row _ _ 0 _ _ _ h1, not_frozen h1⟩
          have HBV := Lib.hid hbv
          obtain ⟨b3, f3⟩ := hbv wr (Below.refl _ _)
          have HLO : Hid (∀ b, (Value.slice va j vc).ownBlock = some b → w4.heap.size + 1 ≤ b) := fun b hb => (HO.out.lt b hb).1
          have HST : Hid (∀ w9 : World, (∀ b, b < w4.heap.size + 1 → w9.heap[b]? = wr.heap[b]?) → w9.cell? ⟨w4.heap.size, 0, none⟩ = some (.slice va j vc) ∧ w9.frozen? ⟨w4.heap.size, 0, none⟩ = false) := fun w9 h9 => by
            have h1 := (h9 w4.heap.size (by omega)).trans HBOX.out
            exact ⟨cell_of_row _ _ 0 _ _ _ h1, not_frozen h1⟩
          obtain ⟨i0, hi⟩ := info_parts Tryz.infoLine
          have HI := Lib.hid hi
          have hw3r : w3.heap.size < wr.heap.size := by omega
          clear hbv hi hbx hbox hO hFx hrd hS
          go_wp2_with fail
          go_region_law (first | (refine step_append_lies _ (by rfl) _ _ _ (by rfl) (w4.heap.size + 1) 42 i0 (.agg #[.int .i64 0, .int .i64 0, .int .i64 0, .int .i64 0, .int .i64 0, .int .i64 0, .int .i64 0, .int .i64 0]) 8 64 Tryz.underlying40 HI.out.1 HI.out.2.1 HI.out.2.2.1 HI.out.2.2.2 rfl (by decide) (.slice va j vc) j _ (by rfl) ((row_belowT HO.out hbC).alloc _) ⟨wC.heap.size, 0, none⟩ 1 1 (lnC S) (by rfl) (by rfl) (cells_new wC _ _) (by simp [Value.oneCell', lnC]) (by omega) (by unfold maxLen; omega) (by omega) (by have := hbC.size; show _ ≤ (wC.alloc _).heap.size; rw [World.size_alloc]; omega) _ rfl ?_; intro g9 cap9 w9 hown9 hgrow hat9 hlt9; have HB9 : Hid (∀ b, b < w4.heap.size + 1 → w9.heap[b]? = wr.heap[b]?) := (fun b hb => (hgrow.block b (by have := hbC.size; show b < (wC.alloc _).heap.size; rw [World.size_alloc]; omega) (fun e => by have := HLO.out b e.symm; omega)).trans ((show (wC.alloc _).heap[b]? = _ from Below.heap_alloc _ _ _ (by have := hbC.size; omega)).trans (hbC.block b (by omega)))); obtain ⟨e9, f9⟩ := HST.out w9 HB9.out) | (go_simp; go_at_call 98; refine (HADD.out _ (Below.refl _ wr).drew).mono ?_; rintro e wC ⟨rfl, hbC0⟩; have hbC : Below wr.heap.size wr wC := (Below.refl _ wr).drew.trans hbC0; clear hbC0; obtain ⟨bC3, fC3⟩ := HBV.out wC hbC; have hXC : (wC.alloc (.cells #[.int .i64 S.level, .int .i64 S.pieces, .int .i64 S.barred, .int .i64 S.grams, .int .i64 S.base, .int .i64 S.bar, .int .i64 S.saved, .int .i64 S.cents] 42)).cell? ⟨w4.heap.size, 0, none⟩ = some (.slice va j vc) := (HBV.out _ (hbC.alloc hbC.size _)).1))
          all_goals
            go_wp2_with fail
            go_roundw
            case rel =>
              have h9 : w9.heap[w4.heap.size]? = _ := (HB9.out _ (by omega)).trans HBOX.out
              have hbz : Below w4.heap.size w4 (wC.alloc (.cells #[.int .i64 S.level, .int .i64 S.pieces, .int .i64 S.barred, .int .i64 S.grams, .int .i64 S.base, .int .i64 S.bar, .int .i64 S.saved, .int .i64 S.cents] 42)) := (HBX.out.trans (hbC.mono HBX.out.size)).alloc (Nat.le_trans HBX.out.size hbC.size) _
              refine ⟨j + 1, .slice (some ⟨g9, 0, none⟩) (j + 1) cap9, by omega, by go_num, ?_, ?_, ?_, ?_⟩
              · exact (hbz.grown hgrow hbz.size (fun r e => by have := HLO.out r e; omega)).setCell (p := ⟨w4.heap.size, 0, none⟩) (Nat.le_refl _) _
              · have h1 := hgrow.size
                have h2 := hbC.size
                rw [World.size_alloc] at h1
                simp [World.setCell]; omega
              · show (w9.heap.modify w4.heap.size _)[w4.heap.size]? = _
                rw [Array.getElem?_modify, if_pos rfl, h9]
                rfl
              · rw [HSU.out, List.flatMap_append, List.flatMap_cons, List.flatMap_nil, List.append_nil]
                exact hown9.kept (gb_setCell _ _ _) (.inr (by show some g9 ≠ some w4.heap.size; have := (hown9.lt g9 rfl).1; intro e; injection e; omega))
            case measure => simp [intOf]; omega
        · obtain rfl : j = ls.length := by omega
          obtain ⟨LL, hLL⟩ : ∃ LL, LL = (List.range ls.length).map (fun (j : Nat) => sumLn (j : Int) (partTo zs (pcLn m bar B R ls zs) m.ps.length j)) := ⟨_, rfl⟩
          have hO' := HO.out
          rw [← hLL] at hO'
          have hlen : LL.length = ls.length := by rw [hLL, List.length_map, List.length_range]
          have hoL : OwnsLn wr (w4.heap.size + 1) (.slice va ls.length vc) LL := by show wr.ownsRow _ _ _ _ LL.length _; rw [hlen]; exact hO'
          have HRD := Lib.hid (OwnsLn.rd hoL)
          have HOL := Lib.hid hoL
          have HLIN : Hid (∀ x ∈ LL, LnIn 2000000000 x) := fun x hx => by
            rw [hLL] at hx
            obtain ⟨i, _, rfl⟩ := List.mem_map.1 hx
            exact (sumLn_in _ (partTo_in HIN.out)).mono (by have := partTo_len zs (pcLn m bar B R ls zs) m.ps.length i; have := HPS.out; omega)
          obtain ⟨T, hT⟩ : ∃ T, T = sumLn (ls.length : Int) LL := ⟨_, rfl⟩
          have HADD : Hid (∀ W, Below wr.heap.size wr W → Calls Tryz.prog 98 #[.int .i64 (ls.length : Int), .slice va ls.length vc] W fun e w' => e = .returned (.agg #[.int .i64 T.level, .int .i64 T.pieces, .int .i64 T.barred, .int .i64 T.grams, .int .i64 T.base, .int .i64 T.bar, .int .i64 T.saved, .int .i64 T.cents]) ∧ Below W.heap.size W w') := fun W hW => by
            have := add_any (m := 2000000000) (ls.length : Int) LL _ W (HRD.out.below hW) HLIN.out (by omega) (by omega)
            rw [← hT] at this
            exact this
          have HMAN : Hid (∀ v, manA (manOf zs (pcLn m bar B R ls zs) m.ps.length ls.length nb nt nc) v = .agg #[v, .int .i64 T.level, .int .i64 T.pieces, .int .i64 T.barred, .int .i64 T.grams, .int .i64 T.base, .int .i64 T.bar, .int .i64 T.saved, .int .i64 T.cents, .int .i64 nb, .int .i64 nt, .int .i64 nc]) := fun v => by rw [hT, hLL]; rfl
          have HLN : Hid ((manOf zs (pcLn m bar B R ls zs) m.ps.length ls.length nb nt nc).lines = LL) := hLL.symm
          have HC7 : Hid (∀ w7, Below wr.heap.size wr w7 → w7.heap[w.heap.size + 1 + 1]? = w3.heap[w.heap.size + 1 + 1]? ∧ w7.heap[w.heap.size + 1 + 1 + 1]? = w3.heap[w.heap.size + 1 + 1 + 1]? ∧ w7.heap[w4.heap.size]? = wr.heap[w4.heap.size]? ∧ Below w.heap.size w w7) := fun w7 h7 => by
            have c1 := below_c HB3.out HB3.out.size HBX.out
            have c2 := below_c c1 c1.size h7
            exact ⟨c2.block _ (by omega), c2.block _ (by omega), h7.block _ (by omega), below_c HL5.out HL5.out.size c2⟩
          have b0 := cell_of_row _ _ 0 _ _ _ HBOX.out
          have d4 : decide ((ls.length : Int) < (ls.length : Int)) = false := decide_eq_false (by omega)
          clear hbx hbox hO hO' hoL hlen hT hLL hjl hj HIN HF
          go_wp2_with (go_at_call 98; refine (HADD.out _ (Below.refl _ _)).mono ?_; rintro e w7 ⟨rfl, hb7⟩; obtain ⟨k1, k2, k3, HW7⟩ := HC7.out w7 hb7; have HOW7 := Lib.hid (row_belowT HOL.out hb7); have kL := k1.trans HL3.out; have kM := k2.trans HL4.out; have kB := k3.trans HBOX.out; have KL := Lib.hid kL; have KM := Lib.hid kM; have KB := Lib.hid kB; have s7 := hb7.size; have l0 := cell_of_row _ _ 0 _ _ _ kL; have l1 := cell_of_row _ _ 1 _ _ _ kL; have l2 := cell_of_row _ _ 2 _ _ _ kL; have f0 := not_frozen (j := 0) kB; have f1 := not_frozen (j := 1) kB; have f2 := not_frozen (j := 2) kB; have f3 := not_frozen (j := 3) kB; have f4 := not_frozen (j := 4) kB; have f5 := not_frozen (j := 5) kB; have f6 := not_frozen (j := 6) kB; have f7 := not_frozen (j := 7) kB; have f8 := not_frozen (j := 8) kB; have f9 := not_frozen (j := 9) kB; have f10 := not_frozen (j := 10) kB; have f11 := not_frozen (j := 11) kB; have e1 := cell_of_row _ _ 1 _ _ _ kB; have e2 := cell_of_row _ _ 2 _ _ _ kB; have e3 := cell_of_row _ _ 3 _ _ _ kB; have e4 := cell_of_row _ _ 4 _ _ _ kB; have e5 := cell_of_row _ _ 5 _ _ _ kB; have e6 := cell_of_row _ _ 6 _ _ _ kB; have e7 := cell_of_row _ _ 7 _ _ _ kB; have e8 := cell_of_row _ _ 8 _ _ _ kB; have e9 := cell_of_row _ _ 9 _ _ _ kB; have e10 := cell_of_row _ _ 10 _ _ _ kB; have e11 := cell_of_row _ _ 11 _ _ _ kB; clear hb7 k1 k2 k3 kL kM kB)
          obtain ⟨W8, hW8⟩ : ∃ x, x = ((((((((w7.setCell ⟨w4.heap.size, 1, none⟩ (.int .i64 T.level)).setCell ⟨w4.heap.size, 2, none⟩ (.int .i64 T.pieces)).setCell ⟨w4.heap.size, 3, none⟩ (.int .i64 T.barred)).setCell ⟨w4.heap.size, 4, none⟩ (.int .i64 T.grams)).setCell ⟨w4.heap.size, 5, none⟩ (.int .i64 T.base)).setCell ⟨w4.heap.size, 6, none⟩ (.int .i64 T.bar)).setCell ⟨w4.heap.size, 7, none⟩ (.int .i64 T.saved)).setCell ⟨w4.heap.size, 8, none⟩ (.int .i64 T.cents)) := ⟨_, rfl⟩
          have G8 : w7.grownBy W8 (some w4.heap.size) := by rw [hW8]; exact set18_gb _ _ _ _ _ _ _ _ _ _
          have kB8 : W8.heap[w4.heap.size]? = some (.cells #[.slice va ls.length vc, .int .i64 T.level, .int .i64 T.pieces, .int .i64 T.barred, .int .i64 T.grams, .int .i64 T.base, .int .i64 T.bar, .int .i64 T.saved, .int .i64 T.cents, .int .i64 0, .int .i64 0, .int .i64 0] 44 (0, 0)) := by rw [hW8]; exact set18 KB.out
          rw [← hW8]
          have kL8 := (G8.block (w.heap.size + 1 + 1) (by omega) (by intro e; injection e; omega)).trans KL.out
          have kM8 := (G8.block (w.heap.size + 1 + 1 + 1) (by omega) (by intro e; injection e; omega)).trans KM.out
          have s8 := G8.size
          have HG8 := Lib.hid G8
          have KB8 := Lib.hid kB8
          have KM8 := Lib.hid kM8
          clear hW8 l0 l1 l2 f0 f1 f2 f3 f4 f5 f6 f7 f8 f9 f10 f11 e1 e2 e3 e4 e5 e6 e7 e8 e9 e10 e11 KL KB KM G8
          have l0 := cell_of_row _ _ 0 _ _ _ kL8
          have l1 := cell_of_row _ _ 1 _ _ _ kL8
          have l2 := cell_of_row _ _ 2 _ _ _ kL8
          have f9 := not_frozen (j := 9) kB8
          have f10 := not_frozen (j := 10) kB8
          have f11 := not_frozen (j := 11) kB8
          have e9 := cell_of_row _ _ 9 _ _ _ kB8
          have e10 := cell_of_row _ _ 10 _ _ _ kB8
          have e11 := cell_of_row _ _ 11 _ _ _ kB8
          have hkp : ∀ W', W8.grownBy W' (some w4.heap.size) → W'.cell? ⟨w.heap.size + 1 + 1, 0, none⟩ = some (.slice ab nb cb) ∧ W'.cell? ⟨w.heap.size + 1 + 1, 1, none⟩ = some (.slice at' nt ct) ∧ W'.cell? ⟨w.heap.size + 1 + 1, 2, none⟩ = some (.slice ac nc cc) := fun W' h => by
            have h1 := (h.block (w.heap.size + 1 + 1) (by omega) (by intro e; injection e; omega)).trans kL8
            exact ⟨cell_of_row _ _ 0 _ _ _ h1, cell_of_row _ _ 1 _ _ _ h1, cell_of_row _ _ 2 _ _ _ h1⟩
          have HKP := Lib.hid hkp
          have hne4 : w4.heap.size ≠ w.heap.size + 1 + 1 := by omega
          have hg0 : W8.grownBy W8.drew (some w4.heap.size) := ⟨rfl, rfl, rfl, Nat.le_refl _, fun _ _ _ => rfl⟩
          have HG0 := Lib.hid hg0
          clear kB8 kL8 kM8 hkp hg0
          go_cut [] from 123 to 134 (fun wx => W8.grownBy wx (some w4.heap.size) ∧ wx.heap[w4.heap.size]? = some (.cells #[.slice va ls.length vc, .int .i64 T.level, .int .i64 T.pieces, .int .i64 T.barred, .int .i64 T.grams, .int .i64 T.base, .int .i64 T.bar, .int .i64 T.saved, .int .i64 T.cents, .int .i64 nb, .int .i64 nt, .int .i64 nc] 44 (0, 0)))
          case first =>
            go_region_held3 (fun w' => w'.cell? ⟨w.heap.size + 1 + 1, 0, none⟩ = some (.slice ab nb cb) ∧ w'.cell? ⟨w.heap.size + 1 + 1, 1, none⟩ = some (.slice at' nt ct) ∧ w'.cell? ⟨w.heap.size + 1 + 1, 2, none⟩ = some (.slice ac nc cc))
              (first | exact HKP.out _ HG0.out | (simp only [far_set hne4, drew_c]; exact ⟨l0, l1, l2⟩))
              (fail)
            go_wp2_with fail
            go_meet
            exact ⟨set9_gb _ _ _ _ _, set9t KB8.out⟩
          case rest =>
            obtain ⟨G9, kB9⟩ := hcut
            have q4 := (G9.block (w.heap.size + 1 + 1 + 1) (by omega) (by intro e; injection e; omega)).trans KM8.out
            have f0 := not_frozen (j := 0) q4; have e0 := cell_of_row _ _ 0 _ _ _ q4; have f1 := not_frozen (j := 1) q4; have e1 := cell_of_row _ _ 1 _ _ _ q4; have f2 := not_frozen (j := 2) q4; have e2 := cell_of_row _ _ 2 _ _ _ q4; have f3 := not_frozen (j := 3) q4; have e3 := cell_of_row _ _ 3 _ _ _ q4; have f4 := not_frozen (j := 4) q4; have e4 := cell_of_row _ _ 4 _ _ _ q4; have f5 := not_frozen (j := 5) q4; have e5 := cell_of_row _ _ 5 _ _ _ q4; have f6 := not_frozen (j := 6) q4; have e6 := cell_of_row _ _ 6 _ _ _ q4; have f7 := not_frozen (j := 7) q4; have e7 := cell_of_row _ _ 7 _ _ _ q4; have f8 := not_frozen (j := 8) q4; have e8 := cell_of_row _ _ 8 _ _ _ q4; have f9 := not_frozen (j := 9) q4; have e9 := cell_of_row _ _ 9 _ _ _ q4; have f10 := not_frozen (j := 10) q4; have e10 := cell_of_row _ _ 10 _ _ _ q4; have f11 := not_frozen (j := 11) q4; have e11 := cell_of_row _ _ 11 _ _ _ q4
            have d0 := cell_of_row _ _ 0 _ _ _ kB9; have d1 := cell_of_row _ _ 1 _ _ _ kB9; have d2 := cell_of_row _ _ 2 _ _ _ kB9; have d3 := cell_of_row _ _ 3 _ _ _ kB9; have d4 := cell_of_row _ _ 4 _ _ _ kB9; have d5 := cell_of_row _ _ 5 _ _ _ kB9; have d6 := cell_of_row _ _ 6 _ _ _ kB9; have d7 := cell_of_row _ _ 7 _ _ _ kB9; have d8 := cell_of_row _ _ 8 _ _ _ kB9; have d9 := cell_of_row _ _ 9 _ _ _ kB9; have d10 := cell_of_row _ _ 10 _ _ _ kB9; have d11 := cell_of_row _ _ 11 _ _ _ kB9
            have Q4 := Lib.hid q4
            have HG9 := Lib.hid G9
            have s9 := G9.size
            clear q4 kB9 G9
            go_wp2_with fail
            refine bodyPost_ret (results_cell_tmp rfl _ _ (w.heap.size + 1 + 1 + 1) _ rfl (run_loadVar_row _ _ _ _ _ _ _ (set12 Q4.out) Tryz.underlying44 rfl (by kernel_rfl))) rfl ?_
            have hb7 := HW7
            have hs7 := hb7.size
            have hw4 : w.heap.size + 1 + 1 + 1 < w4.heap.size := by omega
            refine ⟨.slice va ls.length vc, ?_, ?_, ?_⟩
            · rw [HMAN.out]
              rfl
            · exact set12_below ((hb7.grown HG8.out hs7 (fun r e => by injection e; omega)).grown HG9.out (by omega) (fun r e => by injection e; omega)) (by omega)
            · rw [HLN.out]
              exact own_less (((HOW7.out.kept HG8.out (own_ne HOW7.out.lt (by omega))).kept HG9.out (own_ne HOW7.out.lt (by omega))).kept (set12_gb _ _ _ _ _ _ _ _ _ _ _ _ _ _) (own_ne HOW7.out.lt (by omega))) (by omega)
end Go.Proofs.YtojedplbhialpaaGreatDoor
