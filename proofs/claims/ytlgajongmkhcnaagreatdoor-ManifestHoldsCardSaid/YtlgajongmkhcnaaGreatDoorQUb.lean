import Derived.Test.YtlgajongmkhcnaaGreatDoorQUK
import Derived.Test.YtlgajongmkhcnaaGreatDoorQUM
import Derived.Deep.AppendLies
import Derived.Deep.RegionLaw
import Derived.Deep.RegionHeld3
import Derived.Deep.DrawnRows
import Derived.BigRegion
import Derived.Deep.DeepCutAuto
set_option maxRecDepth 100000
set_option linter.unusedVariables false
set_option linter.unusedSimpArgs false
set_option maxHeartbeats 32000000
namespace Go.Proofs.YtlgajongmkhcnaaGreatDoor
open Go.RowKit Go.Sort
abbrev ZeT (w : World) (g : Nat) (b1 b2 b3 b4 b5 b6 b7 b8 : Value) : World := ((((((((w.setCell ⟨g, 1, none⟩ b1).setCell ⟨g, 2, none⟩ b2).setCell ⟨g, 3, none⟩ b3).setCell ⟨g, 4, none⟩ b4).setCell ⟨g, 5, none⟩ b5).setCell ⟨g, 6, none⟩ b6).setCell ⟨g, 7, none⟩ b7).setCell ⟨g, 8, none⟩ b8)
theorem ZkH {w : World} {g : Nat} {a0 a1 a2 a3 a4 a5 a6 a7 a8 a9 a10 a11 b1 b2 b3 b4 b5 b6 b7 b8 : Value} {t : TypeId} {fr : Nat × Nat} (h : w.1[g]? = some (.cells #[a0, a1, a2, a3, a4, a5, a6, a7, a8, a9, a10, a11] t fr)) :
 (ZeT w g b1 b2 b3 b4 b5 b6 b7 b8).1[g]? = some (.cells #[a0, b1, b2, b3, b4, b5, b6, b7, b8, a9, a10, a11] t fr) := by
 simp [ZeT, World.setCell, Kap, h]
theorem Zh6 (w : World) (g : Nat) (b1 b2 b3 b4 b5 b6 b7 b8 : Value) : w.grownBy (ZeT w g b1 b2 b3 b4 b5 b6 b7 b8) (some g) :=
 ((((((((Z08 w ⟨g, 1, none⟩ b1).trans (Z08 _ ⟨g, 2, none⟩ b2)).trans (Z08 _ ⟨g, 3, none⟩ b3)).trans (Z08 _ ⟨g, 4, none⟩ b4)).trans (Z08 _ ⟨g, 5, none⟩ b5)).trans (Z08 _ ⟨g, 6, none⟩ b6)).trans (Z08 _ ⟨g, 7, none⟩ b7)).trans (Z08 _ ⟨g, 8, none⟩ b8))
theorem Z9o {w : World} {b j b' j' : Nat} {v : Value} (h : b ≠ b') : (w.setCell ⟨b, j, none⟩ v).cell? ⟨b', j', none⟩ = w.cell? ⟨b', j', none⟩ := World.cell?_setCell_far _ _ _ _ h
theorem Zgb {w : World} {a : Addr} : w.drew.cell? a = w.cell? a := rfl
theorem ZkP {a b : World} {r : Option Nat} (h : a.grownBy b r) : a.grownBy b.drew r := ⟨h.os, h.tape, h.output, h.size, h.block⟩
abbrev ZiW (w : World) (g : Nat) (b9 b10 b11 : Value) : World := ((w.setCell ⟨g, 9, none⟩ b9).setCell ⟨g, 10, none⟩ b10).setCell ⟨g, 11, none⟩ b11
theorem ZkF {w : World} {g : Nat} {a0 a1 a2 a3 a4 a5 a6 a7 a8 a9 a10 a11 b9 b10 b11 : Value} {t : TypeId} {fr : Nat × Nat} (h : w.1[g]? = some (.cells #[a0, a1, a2, a3, a4, a5, a6, a7, a8, a9, a10, a11] t fr)) :
 (ZiW w g b9 b10 b11).1[g]? = some (.cells #[a0, a1, a2, a3, a4, a5, a6, a7, a8, b9, b10, b11] t fr) := by
 simp [ZiW, World.setCell, Kap, h]
theorem ZiX (w : World) (g : Nat) (b9 b10 b11 : Value) : w.grownBy (ZiW w g b9 b10 b11).drew (some g) :=
 ZkP (((Z08 w ⟨g, 9, none⟩ b9).trans (Z08 _ ⟨g, 10, none⟩ b10)).trans (Z08 _ ⟨g, 11, none⟩ b11))
def lineO : Obj := .cells #[.int .i64 0, .int .i64 0, .int .i64 0, .int .i64 0, .int .i64 0, .int .i64 0, .int .i64 0, .int .i64 0] 42
abbrev lnR (g b c r : Int) : Array Value := #[.int .i64 0, .int .i64 1, .int .i64 0, .int .i64 g, .int .i64 b, .int .i64 0, .int .i64 c, .int .i64 r]
noncomputable def ZmB : Array Oper := (Tryz.f28.body.bind (Z1p 12)).getD #[]
theorem ZmU (a : Act) (w : World) (Q : Exit -> Act -> World -> Prop) {PB G1 n1 c1 G2 n2 c2 gz oz zl cn gl ol ll lc k u : Nat} {g b c r : Int} (rV : 80 <= a.tmps.size) (hQ : ∀ c (a : Act) (d : Nat) (v : Value) w, Q (.panic c) (a.put (some d) v) w -> Q (.panic c) a w)
 (h1 : a.eval (.tmp 1) = .slice (some ⟨gl, ol, none⟩) ll lc) (h3 : a.eval (.tmp 3) = .slice (some ⟨gz, oz, none⟩) zl cn) (qQ : a.eval (.tmp 12) = .slice (some ⟨G1, 0, none⟩) n1 c1) (qR : a.eval (.tmp 14) = .slice (some ⟨G2, 0, none⟩) n2 c2) (qS : a.eval (.tmp 17) = .int .i64 k) (qT : a.eval (.tmp 18) = .pointer (some ⟨PB, 0, none⟩))
 (hk : k < zl) (wF : k < n1) (wG : k < n2) (hu : u < ll)
 (hc : ∀ w' : World, Below w.1.size w w' -> w'.cell? ⟨PB, 3, none⟩ = some (.int .i64 g) /\ w'.cell? ⟨G2, k, none⟩ = some (.int .i64 b) /\ w'.cell? ⟨gz, oz + k, none⟩ = some (.int .i64 u) /\ w'.cell? ⟨gl, ol + u * 5 + 4, none⟩ = some (.int .i64 c) /\ w'.cell? ⟨G1, k, none⟩ = some (.int .i64 r))
 (uD : ∀ a' W, a'.tmps.size = a.tmps.size -> (∀ n : Nat, n ≠ 19 /\ (n < 60 \/ 79 <= n) -> a'.eval (.tmp n) = a.eval (.tmp n)) -> a'.defers = a.defers -> a'.eval (.tmp 19) = .pointer (some ⟨w.1.size, 0, none⟩) -> Below w.1.size w W -> W.1.size = w.1.size + 1 -> W.1[w.1.size]? = some (.cells (lnR g b c r) 42 (0, 0)) -> Q .normal a' W) :
 (Code.region 12 ZmB true).wp Tryz.prog Q a w := by
 have wH : 61 < a.tmps.size := (by omega)
 have wI : 65 < a.tmps.size := (by omega)
 have wJ : 73 < a.tmps.size := (by omega)
 have wK : 77 < a.tmps.size := (by omega)
 conv =>
  pattern ZmB
  unfold ZmB
  whnf
 refine wp_region_held_drew (S := fun w' => Below w.1.size w w') (by kernel_rfl) ((Z9 _ w).drew) (fun pA => ?_)
 refine Z0L 0 60 (.pointer (some ⟨PB, 3, none⟩)) rfl hQ pA ?_ ?_; rotate_left
 refine Z0L 1 61 (.int .i64 g) rfl hQ pA ?_ ?_; rotate_left
 refine Z0L 2 62 (.slice (some ⟨G2, 0, none⟩) n2 c2) rfl hQ pA ?_ ?_; rotate_left
 refine Z0L 3 63 (.int .i64 k) rfl hQ pA ?_ ?_; rotate_left
 refine Z0L 4 64 (.pointer (some ⟨G2, k, none⟩)) rfl hQ pA ?_ ?_; rotate_left
 refine Z0L 5 65 (.int .i64 b) rfl hQ pA ?_ ?_; rotate_left
 refine Z0L 6 66 (.slice (some ⟨gl, ol, none⟩) ll lc) rfl hQ pA ?_ ?_; rotate_left
 refine Z0L 7 67 (.slice (some ⟨gz, oz, none⟩) zl cn) rfl hQ pA ?_ ?_; rotate_left
 refine Z0L 8 68 (.int .i64 k) rfl hQ pA ?_ ?_; rotate_left
 refine Z0L 9 69 (.pointer (some ⟨gz, oz + k, none⟩)) rfl hQ pA ?_ ?_; rotate_left
 refine Z0L 10 70 (.int .i64 u) rfl hQ pA ?_ ?_; rotate_left
 refine Z0L 11 71 (.pointer (some ⟨gl, ol + u * 5, none⟩)) rfl hQ pA ?_ ?_; rotate_left
 refine Z0L 12 72 (.pointer (some ⟨gl, ol + u * 5 + 4, none⟩)) rfl hQ pA ?_ ?_; rotate_left
 refine Z0L 13 73 (.int .i64 c) rfl hQ pA ?_ ?_; rotate_left
 refine Z0L 14 74 (.slice (some ⟨G1, 0, none⟩) n1 c1) rfl hQ pA ?_ ?_; rotate_left
 refine Z0L 15 75 (.int .i64 k) rfl hQ pA ?_ ?_; rotate_left
 refine Z0L 16 76 (.pointer (some ⟨G1, k, none⟩)) rfl hQ pA ?_ ?_; rotate_left
 refine Z0L 17 77 (.int .i64 r) rfl hQ pA ?_ ?_; rotate_left
 refine Z0L 18 78 (.agg (lnR g b c r)) rfl hQ pA ?_ ?_; rotate_left
 ·refine wpAnyH_ready (rs := [19]) (by kernel_rfl) (by simp) ?_
  refine Z0i ⟨some 19, .alloc 42, _, _, _, none⟩ (.pointer (some ⟨w.1.size, 0, none⟩)) (w.drew.alloc lineO) rfl rfl ?_ ((Z9 _ w).drew.alloc (Z1 _) _) ?_ AllReadyH.nil
  ·simp (disch := (first | omega | (simp only [size_put]; omega))) only [execOp, eval_put_ne, Z00, h1, h3, qQ, qR, qS, qT]
   try go_simp
   try rfl
  obtain ⟨W, hW⟩ : ∃ W, W = w.drew.alloc lineO := ⟨_, rfl⟩
  have hb : Below w.1.size w W := by rw [hW]; exact (Z9 _ w).drew.alloc (Z1 _) _
  have hz : W.1[w.1.size]? = some lineO := by rw [hW]; exact Z02 w.drew _
  have hs : W.1.size = w.1.size + 1 := by rw [hW]; simp
  rw [<- hW]
  have pZ : (storeVar 42 ⟨w.1.size, 0, none⟩ (.agg (lnR g b c r))).run Tryz.prog W = .ok () (W.setRow w.1.size (lnR g b c r)) := by
   have rW := hz
   unfold lineO at rW
   refine run_storeVar_row W w.1.size 42 42 _ _ rW (by kernel_rfl) (by rfl) ?_
   simp [Value.oneCell']
  refine wpAnyH_ready (rs := [20]) (by kernel_rfl) (by simp) ?_
  refine Z1C ⟨none, .store 42 (.tmp 19) (.tmp 78), _, _, _, none⟩ (W.setRow w.1.size (lnR g b c r)) rfl rfl ?_ (below_setRow hb (Z1 _) _) ?_ AllReadyH.nil
  ·simp (disch := (first | omega | (simp only [size_put]; omega))) only [execOp, eval_put_ne, Z00, h1, h3, qQ, qR, qS, qT]
   unfold Instr.storeAt
   simp [Instr.sureAddr, pZ, Result.andThen]
  ·refine wpAnyH_done (by kernel_rfl) ?_ _
   refine uD _ _ ?_ ?_ ?_ ?_ (below_setRow hb (Z1 _) _) (by rw [size_setRow]; exact hs) ?_
   ·simp only [size_put]
   ·intro n hn
    obtain ⟨n19, hn⟩ := hn
    rcases hn with hn | hn
    all_goals (simp (disch := omega) only [Z0u, eval_put_ne])
   ·simp only [Z0O]
   ·simp (disch := (first | omega | (simp only [size_put]; omega))) only [Z0u, eval_put_ne, Z00]
   ·unfold lineO at hz
    exact setRow_heap _ _ _ _ _ _ hz
 all_goals
  intro w' hS
  obtain ⟨k1, k2, k3, k4, k5⟩ := hc w' hS
  simp (disch := (first | omega | (simp only [size_put]; omega))) only [execOp, eval_put_ne, Z00, h1, h3, qQ, qR, qS, qT]
  first | rfl | (go_simp; done)
theorem Zcg {ls : List Lev} {m : Mai} {zs : List Int} {bar : Int} {B R : Nat -> Int} {vr vz vp vl vn vb vt vc : Value} {nb nt nc : Nat} (w : World)
 (uE : RdPces w vp m.ps) (hr : RdLevs w vl ls) (hn : RdInts w vn zs) (uF : ∃ a n c, vr = .slice a n c) (uG : ∃ a n c, vz = .slice a n c) (uH : ∃ a c, vb = .slice a nb c) (uI : ∃ a c, vt = .slice a nt c) (uJ : ∃ a c, vc = .slice a nc c)
 (uK : m.ps.length <= 2000) (wL : 1 <= ls.length /\ ls.length <= 6) (rX : zs.length = m.ps.length) (rY : ∀ x ∈ zs, 0 <= x /\ x < (ls.length : Int)) (wM : nb <= 100000 /\ nt <= 100000 /\ nc <= 100000)
 (rZ : ∀ i, i < m.ps.length -> LnIn 1000000 (Z3p m bar B R ls zs i))
 (sA : ∀ W, Below w.1.size w W -> Calls Tryz.prog 13 #[.agg #[vr, vz], vl, Z2r m vp, vn] W fun e w' => ∃ g, e = .returned (.tuple #[.slice (some ⟨g, 0, none⟩) m.ps.length m.ps.length, .int .i64 0]) /\ Below W.1.size W w' /\ W.1.size <= g /\
  w'.ownsRow W.1.size 3 1 (.slice (some ⟨g, 0, none⟩) m.ps.length m.ps.length) m.ps.length ((List.range m.ps.length).map (fun i => Value.int .i64 (R i))))
 (pO : ∀ W, Below w.1.size w W -> Calls Tryz.prog 35 #[.agg #[vr, vz], Z2r m vp] W fun e w' => ∃ g, e = .returned (.tuple #[.slice (some ⟨g, 0, none⟩) m.ps.length m.ps.length, .int .i64 0]) /\ Below W.1.size W w' /\ W.1.size <= g /\
  w'.ownsRow W.1.size 3 1 (.slice (some ⟨g, 0, none⟩) m.ps.length m.ps.length) m.ps.length ((List.range m.ps.length).map (fun i => Value.int .i64 (B i))))
 (sB : ∀ W, Below w.1.size w W -> Calls Tryz.prog 66 #[.agg #[vr, vz], .int .u8 m.cls] W fun e w' => e = .returned (.int .i64 bar) /\ Below W.1.size W w') :
 Calls Tryz.prog 28 #[.agg #[vr, vz], vl, Z2r m vp, vn, .agg #[vb, vt, vc]] w fun e w' => ∃ v, e = .returned (.tuple #[Z6p (Z5x zs (Z3p m bar B R ls zs) m.ps.length ls.length nb nt nc) v, .int .i64 0]) /\ Below w.1.size w w' /\
  OwnsLn w' w.1.size v (Z5x zs (Z3p m bar B R ls zs) m.ps.length ls.length nb nt nc).lines := by
 obtain ⟨ar, nr, cr, rfl⟩ := uF
 obtain ⟨az, nz, cz, rfl⟩ := uG
 obtain ⟨ab, cb, rfl⟩ := uH
 obtain ⟨at', ct, rfl⟩ := uI
 obtain ⟨ac, cc, rfl⟩ := uJ
 obtain ⟨ap, cp, rfl, sC⟩ := uE
 obtain ⟨al, cl, rfl, pR⟩ := hr
 obtain ⟨an, cn, rfl, sD⟩ := hn
 have qU := Z0 sC
 have qV := Z0 pR
 have qW := Z0 sD
 have qX := Z0 rY
 have sE := Z0 rX
 have pS := Z0 rZ
 have qY := Z0 sA
 have pI := Z0 pO
 have sF := Z0 sB
 obtain ⟨t1, t2, t3, t4, t5, t6⟩ := Z6r (w := w) (A := .cells #[.slice ar nr cr, .slice az nz cz] 29) (B := .cells #[.int .u8 m.cls, .int .u8 m.ctr, .string m.origin, .slice ap m.ps.length cp] 34) (C := .cells #[.slice ab nb cb, .slice at' nt ct, .slice ac nc cc] 52) (D := ZiA) rfl
 unfold ZiA at t1 t2 t3 t4 t5 t6
 obtain ⟨W0, qZ⟩ : ∃ W0, W0 = ((((w.alloc (.cells #[.slice ar nr cr, .slice az nz cz] 29)).alloc (.cells #[.int .u8 m.cls, .int .u8 m.ctr, .string m.origin, .slice ap m.ps.length cp] 34)).alloc (.cells #[.slice ab nb cb, .slice at' nt ct, .slice ac nc cc] 52)).alloc (.cells #[.slice none 0 0, .int .i64 0, .int .i64 0, .int .i64 0, .int .i64 0, .int .i64 0, .int .i64 0, .int .i64 0, .int .i64 0, .int .i64 0, .int .i64 0, .int .i64 0] 44)) := ⟨_, rfl⟩
 rw [<- qZ] at t1 t2 t3 t4 t5 t6
 have sG := fun W => run_make_row' (P := Tryz.prog) 157 40 (.slice none 0 0) 24 Tryz.underlying157 Tryz.infoSL rfl .i64 .i64 ls.length (by omega) (by omega) W
 clear sC pR sD rY rX rZ sA pO sB
 unfold Z2r at qY pI ⊢
 go_enter Tryz.func28, Tryz.ntmps28
 go_wp2_with (first
  | (go_at_call 66; refine (sF.out _ k5).mono ?_; rintro e w3 ⟨rfl, pF⟩; have l2 := (pF.block _ (by omega)).trans k2; have l3 := (pF.block _ (by omega)).trans k3; have l4 := (pF.block _ (by omega)).trans k4; have l5 := Z01 k5 k5.size pF; have l6 : w.1.size + 4 <= w3.1.size := (by have := pF.size; omega); have own1 := own1'.kept (Z0a pF) (Kbm _); have own2 := sH.kept (Z0a pF) (Kbm _); have wN := pF.size; clear pF k1 k2 k3 k4 k5 own1' sH z10 z11 z20; have x23 := Kaa _ _ 3 _ _ _ l2; have wO : w.1.size + 1 < w3.1.size := (by omega); have uL := sG w3)
  | (go_at_call 35; refine (pI.out _ j5).mono ?_; rintro e w2 ⟨G2, rfl, pB, uM, sH⟩; have k1 := (pB.block _ (by omega)).trans j1; have k2 := (pB.block _ (by omega)).trans j2; have k3 := (pB.block _ (by omega)).trans j3; have k4 := (pB.block _ (by omega)).trans j4; have k5 := Z01 j5 j5.size pB; have k6 : w.1.size + 4 <= w2.1.size := (by have := pB.size; omega); have own1' := sI.kept (Z0a pB) (Kbm _); have wP := pB.size; clear pB j1 j2 j3 j4 j5 sI y10 y11 y20 y21 y22 y23; have z10 := Kaa _ _ 0 _ _ _ k1; have z11 := Kaa _ _ 1 _ _ _ k1; have z20 := Kaa _ _ 0 _ _ _ k2)
  | (go_at_call 13; rw [<- qZ]; refine (qY.out _ t6).mono ?_; rintro e w1 ⟨G1, rfl, pE, uN, sI⟩; have j1 := (pE.block _ (by omega)).trans t1; have j2 := (pE.block _ (by omega)).trans t2; have j3 := (pE.block _ (by omega)).trans t3; have j4 := (pE.block _ (by omega)).trans t4; have j5 := Z01 t6 t6.size pE; have j6 : w.1.size + 4 <= w1.1.size := (by have := pE.size; omega); clear pE t1 t2 t3 t4; have y10 := Kaa _ _ 0 _ _ _ j1; have y11 := Kaa _ _ 1 _ _ _ j1; have y20 := Kaa _ _ 0 _ _ _ j2; have y21 := Kaa _ _ 1 _ _ _ j2; have y22 := Kaa _ _ 2 _ _ _ j2; have y23 := Kaa _ _ 3 _ _ _ j2))
 have sJ := Z0 own1
 have sK := Z0 own2
 have uO := Z0 l3
 have uP := Z0 l4
 have pP := Z0 l5
 have rA := (own1.lt G1 rfl).2
 have rB := (own2.lt G2 rfl).2
 have sL : Below w3.1.size w3 (w3.alloc (.cells (madeCells #[.slice none 0 0] ls.length) 40)) := (Z9 _ w3).alloc (Z1 _) _
 have sM := Z0 sL
 have sN : LnF (w3.alloc (.cells (madeCells #[.slice none 0 0] ls.length) 40)) (w3.1.size + 1) w3.1.size ls.length (Z0p zs (Z3p m bar B R ls zs) 0) (fun _ => .slice none 0 0) := LnF.nil (World.rowIs_made w3 _ _ _)
 have sO := Z0 sN
 clear own1 own2 l2 l3 l4 l5 x23 uL sG sL sN qY pI sF k6 j6 t5 t6 qZ uN uM
 go_loopw [55] (fun i wr => ∃ (k : Nat) (F : Nat -> Value), k <= m.ps.length /\ i = .int .i64 k /\ Below w3.1.size w3 wr /\ w3.1.size + 1 <= wr.1.size /\ LnF wr (w3.1.size + 1) w3.1.size ls.length (Z0p zs (Z3p m bar B R ls zs) k) F) (fun i _ => m.ps.length - (intOf i).toNat)
 case atStart => exact ⟨0, _, ZE _, rfl, sM.out, by simp, sO.out⟩
 case round =>
  clear sM sO
  obtain ⟨k, F, hk, rfl, pK, rV, hF⟩ := hrel
  by_cases pG : k < m.ps.length
  ·have pT := Z0 pK
   have HF := Z0 hF
   obtain ⟨g, off, rfl, hg, pZ⟩ := qU.out (by omega)
   have wQ : g < w3.1.size := by have := pP.out.size; omega
   have qA := pP.out
   have e1 : ∀ (W : World), Below wr.1.size wr W -> ∀ g o, g < w3.1.size -> W.cell? ⟨g, o, none⟩ = w3.cell? ⟨g, o, none⟩ := fun W hW g o hg => (hW.cell (p := ⟨g, o, none⟩) (by have := pK.size; show g < wr.1.size; omega)).trans (pK.cell (p := ⟨g, o, none⟩) hg)
   have e0 : ∀ g o, g < w.1.size -> w3.cell? ⟨g, o, none⟩ = w.cell? ⟨g, o, none⟩ := fun g o hg => qA.cell (p := ⟨g, o, none⟩) hg
   obtain ⟨p0, p1, p2, p3, p4⟩ := (pZ k pG).below (qA.trans (pK.mono qA.size)) hg
   have uQ : g < wr.1.size := by omega
   have pU : k < zs.length := by rw [sE.out]; exact pG
   obtain ⟨gz, oz, rfl, sP, sQ⟩ := qW.out (by omega)
   have qB := sQ k pU
   obtain ⟨s1, s2⟩ := qX.out _ (Z4 pU)
   obtain ⟨u, hu⟩ : ∃ u : Nat, zs[k] = u := ⟨zs[k].toNat, by omega⟩
   rw [hu] at qB s2
   have pH : u < ls.length := by omega
   have qC : zs.getD k (-1) = (u : Int) := by rw [Z2, Z3 pU]; exact hu
   obtain ⟨gl, ol, rfl, uR, pR⟩ := qV.out (by omega)
   obtain ⟨lv, _, sR⟩ := pR u pH
   have sS := sR.2.2.2.2
   have pL : Z5I ls (zs.getD k (-1)) = ls[u].cents := by
    unfold Z5I
    rw [qC, Kar, Z2, Z3 pH]; rfl
   have sT : m.ps.getD k ⟨0, 0, ⟨#[]⟩, 0, false⟩ = m.ps[k] := by rw [Z2, Z3 pG]; rfl
   have sU : Z3p m bar B R ls zs k = ⟨0, 1, if m.ps[k].barred then 1 else 0, m.ps[k].grams, B k, if m.ps[k].barred then bar else 0, ls[u].cents, R k⟩ := by
    unfold Z3p ZaT
    rw [pL, sT]
   have o1 : w3.cell? ⟨G1, k, none⟩ = some (.int .i64 (R k)) := by rw [sJ.out.cellAt k (by omega), Z4A pG]
   have o2 : w3.cell? ⟨G2, k, none⟩ = some (.int .i64 (B k)) := by rw [sK.out.cellAt k (by omega), Z4A pG]
   have pC := Z0 sU
   have sV := (e1 wr (Z9 _ _) gz (oz + k) (by omega)).trans ((e0 gz (oz + k) sP).trans qB)
   have rC := (e1 wr (Z9 _ _) gl (ol + u * 5 + 4) (by omega)).trans ((e0 gl (ol + u * 5 + 4) uR).trans sS)
   have q1 := (e1 wr (Z9 _ _) G1 k rA).trans o1
   have q2 := (e1 wr (Z9 _ _) G2 k rB).trans o2
   have sW : gz < wr.1.size := by omega
   have sX : gl < wr.1.size := by omega
   have sY : G1 < wr.1.size := by omega
   have sZ : G2 < wr.1.size := by omega
   have d4 : decide ((k : Int) < (m.ps.length : Int)) = true := Kac (by omega)
   have uS := Z0 (pS.out k pG)
   have qD := Z5r zs (Z3p m bar B R ls zs) k u
   have tA := Z0 (Zab zs (Z3p m bar B R ls zs) qC)
   have uT : Hid (∀ j : Nat, j ≠ u -> Z0p zs (Z3p m bar B R ls zs) (k + 1) j = Z0p zs (Z3p m bar B R ls zs) k j) := fun j hj => Za9 zs _ (by rw [qC]; omega)
   have uU := Z0 e1
   have uV := Z0 ((e0 gz (oz + k) sP).trans qB)
   clear pZ sQ pR sR sS qB hu qC pL sT sU o1 o2 e1 e0 pK hF qA s1 qU qW qV qX pS
   generalize Z3p m bar B R ls zs k = pk at pC uS tA
   generalize ls[u] = l at rC pC
   generalize m.ps[k] = p at p0 p1 p2 p3 p4 pC
   generalize R k = rk at q1 pC
   generalize B k = bk at q2 pC
   go_wp2_with fail
   obtain ⟨WP, qE⟩ : ∃ W, W = wr.alloc (.cells #[.int .i64 p.id, .int .i64 p.point, .string p.code, .int .i64 p.grams, .bool p.barred] 65) := ⟨_, rfl⟩
   have rD : Below wr.1.size wr WP := by rw [qE]; exact (Z9 _ _).alloc (Z1 _) _
   have tB : WP.1.size = wr.1.size + 1 := by rw [qE]; simp
   have qF := Z02 wr (.cells #[.int .i64 p.id, .int .i64 p.point, .string p.code, .int .i64 p.grams, .bool p.barred] 65)
   rw [<- qE] at qF ⊢
   clear qE
   refine Z2O (ops' := ZmB) (by kernel_rfl) (ZmU _ WP _ (PB := wr.1.size) (G1 := G1) (G2 := G2) (gz := gz) (oz := oz) (zl := zs.length) (cn := cn) (gl := gl) (ol := ol) (ll := ls.length) (k := k) (u := u) (g := p.grams) (b := bk) (c := l.cents) (r := rk) (by simp) (fun _ _ _ _ _ h => h) rfl rfl rfl rfl rfl rfl pU pG pG pH ?_ ?_)
   ·intro w' hw'
    have qG : Below wr.1.size wr w' := rD.trans (hw'.mono (by omega))
    exact ⟨Kaa _ _ 3 _ _ _ ((hw'.block _ (by omega)).trans qF), (qG.cell (p := ⟨G2, k, none⟩) sZ).trans q2, (qG.cell (p := ⟨gz, oz + k, none⟩) sW).trans sV, (qG.cell (p := ⟨gl, ol + u * 5 + 4, none⟩) sX).trans rC, (qG.cell (p := ⟨G1, k, none⟩) sY).trans q1⟩
   intro a' W1 tC tD tE rE rF tF rG
   rw [tB] at rE tF rG
   rw [Z2T (a' := a') [19, 60, 61, 62, 63, 64, 65, 66, 67, 68, 69, 70, 71, 72, 73, 74, 75, 76, 77, 78] tC (fun n hn => tD n (by simp at hn; omega)) tE]
   simp only [Z1K, rE, Act.put, Kci, Kdh, Kcy]
   have uW : W1.cell? ⟨wr.1.size, 4, none⟩ = some (.bool p.barred) := Kaa _ _ 4 _ _ _ ((rF.block wr.1.size (by omega)).trans qF)
   have pE : Below wr.1.size wr W1 := rD.trans (rF.mono (by omega))
   have tG : W1.1.size = wr.1.size + 2 := by omega
   clear tC tD tE rE rF tF rD tB qF
   go_upto_if 80 with fail
   have rH := Z0 pE
   have rI := Z0 tG
   have pM := Z0 rG
   clear uW q1 q2 sV rC p0 p1 p2 p3 p4 pE tG rG rA rB sY sZ sX uQ sW
   go_cut [] from 59 to 83 (fun wx => Below wr.1.size wr wx /\ wx.1.size = wr.1.size + 2 /\ ∃ b1 b2 : Int, Hid (pk = ⟨0, 1, b1, p.grams, bk, b2, l.cents, rk⟩) /\ wx.1[wr.1.size + 1]? = some (.cells #[.int .i64 0, .int .i64 1, .int .i64 b1, .int .i64 p.grams, .int .i64 bk, .int .i64 b2, .int .i64 l.cents, .int .i64 rk] 42 (0, 0)))
   case first =>
    have f2 := Z03 (j := 2) pM.out
    have f5 := Z03 (j := 5) pM.out
    have c2 := Kaa _ _ 2 _ _ _ pM.out
    have c5 := Kaa _ _ 5 _ _ _ pM.out
    cases tH : p.barred
    ·rw [tH] at pC
     go_wp2_with fail
     go_meet
     exact ⟨rH.out, rI.out, 0, 0, pC.out, pM.out⟩
    ·rw [tH] at pC
     go_wp2_with fail
     go_meet
     refine ⟨(rH.out.setCell (p := ⟨wr.1.size + 1, 2, none⟩) (Kbd _) _).setCell (p := ⟨wr.1.size + 1, 5, none⟩) (Kbd _) _, by simp [World.setCell]; exact rI.out, 1, bar, pC.out, ?_⟩
     have h := pM.out
     simp [World.setCell, Kap, h]
   case rest =>
    obtain ⟨pB, tI, b1, b2, tJ, rJ⟩ := hcut
    obtain ⟨W2, uX⟩ : ∃ W2, W2 = wc := ⟨_, rfl⟩
    subst uX
    clear rH rI pM pC
    go_wp2_with fail
    have uY := tJ
    have wR := Z0 tI
    have uZ := Z0 rJ
    clear tI tJ
    have hz := (uU.out W2 pB gz (oz + k) (by have := pP.out.size; omega)).trans uV.out
    have tK : ∀ w' : World, w'.1[gz]? = W2.1[gz]? -> w'.1[wr.1.size + 1]? = W2.1[wr.1.size + 1]? -> w'.cell? ⟨gz, oz + k, none⟩ = some (.int .i64 u) /\ w'.cell? ⟨wr.1.size + 1, 0, none⟩ = some (.int .i64 0) /\ w'.cell? ⟨wr.1.size + 1, 1, none⟩ = some (.int .i64 1) /\ w'.cell? ⟨wr.1.size + 1, 2, none⟩ = some (.int .i64 b1) /\ w'.cell? ⟨wr.1.size + 1, 3, none⟩ = some (.int .i64 p.grams) /\ w'.cell? ⟨wr.1.size + 1, 4, none⟩ = some (.int .i64 bk) /\ w'.cell? ⟨wr.1.size + 1, 5, none⟩ = some (.int .i64 b2) /\ w'.cell? ⟨wr.1.size + 1, 6, none⟩ = some (.int .i64 l.cents) /\ w'.cell? ⟨wr.1.size + 1, 7, none⟩ = some (.int .i64 rk) := fun w' h1 h2 => by
     have h3 := h2.trans uZ.out
     exact ⟨(Kak (w := W2) h1).trans hz, Kaa _ _ 0 _ _ _ h3, Kaa _ _ 1 _ _ _ h3, Kaa _ _ 2 _ _ _ h3, Kaa _ _ 3 _ _ _ h3, Kaa _ _ 4 _ _ _ h3, Kaa _ _ 5 _ _ _ h3, Kaa _ _ 6 _ _ _ h3, Kaa _ _ 7 _ _ _ h3⟩
    have qH := Z0 tK
    have qI := HF.out.below pB
    have pL := qI.row.cell pH
    have vA := qI.row.frozen u
    have pV := qI.own u pH
    obtain ⟨Fu, qJ⟩ : ∃ f, f = F u := ⟨_, rfl⟩
    have vB : ∃ fa fc, Fu = .slice fa (Z0p zs (Z3p m bar B R ls zs) k u).length fc := by
     rw [qJ]
     rcases Joins.ownsRow_forms pV with ⟨e, hp⟩ | ⟨gf, cf, e⟩
     ·exact ⟨none, 0, by rw [e, hp]⟩
     ·exact ⟨_, cf, e⟩
    rw [<- qJ] at pL pV
    have qK := Z0 qJ
    obtain ⟨fa, fc, rfl⟩ := vB
    obtain ⟨bn, rK⟩ : ∃ n, n = (Z0p zs (Z3p m bar B R ls zs) k u).length := ⟨_, rfl⟩
    rw [<- rK] at pL pV qK qD
    have tL := Z0 rK
    have tM := Z0 pV
    have tN := Z0 pB
    have tO : w3.1.size < W2.1.size := by have := pB.size; omega
    have vC : gz < W2.1.size := by have := pB.size; omega
    have vD : wr.1.size + 1 < W2.1.size := (Z5.1 rJ).1
    obtain ⟨i0, hi⟩ := info_parts Tryz.infoLine
    have HI := Z0 hi
    have pO : Below W2.1.size W2 (W2.drew.alloc (.cells #[.int .i64 0, .int .i64 1, .int .i64 b1, .int .i64 p.grams, .int .i64 bk, .int .i64 b2, .int .i64 l.cents, .int .i64 rk] 42)) := (Z9 W2.1.size W2).drew.alloc (Z1 _) _
    have pI := Z0 pO
    have wS : (W2.alloc (.cells #[.int .i64 0, .int .i64 1, .int .i64 b1, .int .i64 p.grams, .int .i64 bk, .int .i64 b2, .int .i64 l.cents, .int .i64 rk] 42)).cell? ⟨w3.1.size, u, none⟩ = some (.slice fa bn fc) := (pO.cell (p := ⟨w3.1.size, u, none⟩) tO).trans pL
    have tP : Hid (∀ w9 : World, (W2.drew.alloc (.cells #[.int .i64 0, .int .i64 1, .int .i64 b1, .int .i64 p.grams, .int .i64 bk, .int .i64 b2, .int .i64 l.cents, .int .i64 rk] 42)).grownBy w9 (Value.slice fa bn fc).ownBlock -> ∀ b, b < w3.1.size + 1 \/ b = wr.1.size + 1 /\ (Value.slice fa bn fc).ownBlock ≠ some b -> w9.1[b]? = W2.1[b]?) := fun w9 hg b hb =>
     (hg.block _ (by show b < (W2.drew.alloc _).1.size; rw [Z6]; show b < W2.1.size + 1; rcases hb with h | h <;> omega) (fun e => by
      rcases hb with h | h
      ·have := (tM.out.lt _ e.symm).1; omega
      ·exact h.2 e.symm)).trans (pI.out.block _ (by rcases hb with h | h <;> omega))
    have tQ : (Value.slice fa bn fc).ownBlock ≠ some (wr.1.size + 1) := fun e => by
     have h1 := (HF.out.own u pH).lt (wr.1.size + 1) (by rw [<- qK.out]; exact e)
     omega
    have vE := Z0 tQ
    clear qJ rK pV qI pB rJ hi tK pO hz tQ
    have wT : gz < w3.1.size := by have := pP.out.size; omega
    have vF : gz ≠ w3.1.size := by omega
    have vG : wr.1.size + 1 ≠ w3.1.size := by omega
    have vH : w3.1.size < w3.1.size + 1 := Ka4 _
    have vI : gz < w3.1.size + 1 := by omega
    have vJ : ∀ v ∈ [Value.int .i64 0, Value.int .i64 1, Value.int .i64 b1, Value.int .i64 p.grams, Value.int .i64 bk, Value.int .i64 b2, Value.int .i64 l.cents, Value.int .i64 rk], v.oneCell' = true := by simp [Value.oneCell']
    have qL : ∀ w9 : World, (W2.drew.alloc (.cells #[.int .i64 0, .int .i64 1, .int .i64 b1, .int .i64 p.grams, .int .i64 bk, .int .i64 b2, .int .i64 l.cents, .int .i64 rk] 42)).grownBy w9 (Value.slice fa bn fc).ownBlock -> w9.1[gz]? = W2.1[gz]? /\ w9.1[wr.1.size + 1]? = W2.1[wr.1.size + 1]? := fun w9 h => ⟨tP.out w9 h _ (.inl vI), tP.out w9 h _ (.inr ⟨rfl, vE.out⟩)⟩
    refine Z2O (ops' := ZhC) (by kernel_rfl) (ZkI _ W2 _ (gz := gz) (oz := oz) (zl := zs.length) (cn := cn) (PB := w3.1.size) (L := ls.length) (k := k) (u := u) (LB := wr.1.size + 1) (bn := bn) (fc := fc) (fa := fa) (base := w3.1.size + 1) (by simp) (fun _ _ _ _ _ h => h) rfl rfl rfl rfl pU pH ?_ pL vA tO vJ tM.out (by omega) vH (by omega) (fun w9 h => qH.out _ (qL w9 h).1 (qL w9 h).2) (fun w9 h x => qH.out _ ((ZA _ _ _ _ vF).trans (qL w9 h).1) ((ZA _ _ _ _ vG).trans (qL w9 h).2)) ?_)
    ·intro w' hw'
     rcases hw' with rfl | rfl
     ·exact qH.out _ rfl rfl
     ·exact qH.out _ (pI.out.block _ vC) (pI.out.block _ vD)
    intro a' g9 cap9 w9 vK vL vM qM pW tR
    rw [Z2T (a' := a') [84, 85, 86, 87, 88, 89, 90, 91, 92, 93, 94, 95, 96, 97, 98, 99] vK (fun n hn => vL n (by simp at hn; omega)) vM]
    generalize Act.eval a' (.tmp 84) = u84
    generalize Act.eval a' (.tmp 85) = u85
    generalize Act.eval a' (.tmp 86) = u86
    generalize Act.eval a' (.tmp 87) = u87
    generalize Act.eval a' (.tmp 88) = u88
    generalize Act.eval a' (.tmp 89) = u89
    generalize Act.eval a' (.tmp 90) = u90
    generalize Act.eval a' (.tmp 91) = u91
    generalize Act.eval a' (.tmp 92) = u92
    generalize Act.eval a' (.tmp 93) = u93
    generalize Act.eval a' (.tmp 94) = u94
    generalize Act.eval a' (.tmp 95) = u95
    generalize Act.eval a' (.tmp 96) = u96
    generalize Act.eval a' (.tmp 97) = u97
    generalize Act.eval a' (.tmp 98) = u98
    generalize Act.eval a' (.tmp 99) = u99
    simp only [Z1K, Act.put, Kci, Kdh, Kcy]
    go_wp2_with fail
    go_roundw
    case rel =>
     have pJ : Below wr.1.size wr (W2.drew.alloc (.cells #[.int .i64 0, .int .i64 1, .int .i64 b1, .int .i64 p.grams, .int .i64 bk, .int .i64 b2, .int .i64 l.cents, .int .i64 rk] 42)) := tN.out.trans (pI.out.mono tN.out.size)
     have pX := HF.out.below pJ
     have rL : (W2.drew.alloc (.cells #[.int .i64 0, .int .i64 1, .int .i64 b1, .int .i64 p.grams, .int .i64 bk, .int .i64 b2, .int .i64 l.cents, .int .i64 rk] 42)).grownBy w9 (F u).ownBlock := by rw [<- qK.out]; exact pW
     have vN : (F u).ownBlock = some g9 \/ (W2.drew.alloc (.cells #[.int .i64 0, .int .i64 1, .int .i64 b1, .int .i64 p.grams, .int .i64 bk, .int .i64 b2, .int .i64 l.cents, .int .i64 rk] 42)).1.size <= g9 := by
      rw [<- qK.out]
      exact tR.imp id (fun h => by rw [h, Z6]; exact Z1 _)
     have vO : w9.ownsRow (w3.1.size + 1) 42 8 (.slice (some ⟨g9, 0, none⟩) ((Z0p zs (Z3p m bar B R ls zs) k u).length + 1) cap9) ((Z0p zs (Z3p m bar B R ls zs) k u).length + 1) ((Z0p zs (Z3p m bar B R ls zs) k u).flatMap lnC ++ lnC pk) := by
      rw [<- tL.out, uY.out]; exact qM
     have tS := pX.put pH pk (Ka4 _) vO rL vN
     have hG : (fun i => if i = u then Z0p zs (Z3p m bar B R ls zs) k u ++ [pk] else Z0p zs (Z3p m bar B R ls zs) k i) = Z0p zs (Z3p m bar B R ls zs) (k + 1) := funext fun j => by
      by_cases e : j = u
      ·subst e
       rw [if_pos rfl, tA.out]
      ·rw [if_neg e, uT.out j e]
     rw [hG, <- tL.out] at tS
     have vP : ∀ b, (F u).ownBlock = some b -> w3.1.size + 1 <= b := fun b hb => ((HF.out.own u pH).lt b hb).1
     have wU := rL.size
     have vQ := pJ.size
     refine ⟨k + 1, _, by omega, by go_num, ((Z01 pT.out pT.out.size pJ).grown rL (by omega) (fun r e => by have := vP r e; omega)).setCell (p := ⟨w3.1.size, u, none⟩) (Z1 _) _, ?_, tS⟩
     simp [World.setCell]; omega
    case measure => simp [intOf]; omega
  ·obtain rfl : k = m.ps.length := by omega
   obtain ⟨w4, tT⟩ : ∃ x, x = wr := ⟨wr, rfl⟩
   subst tT
   have pT := Z0 pK
   have HF := Z0 hF
   have rM : Hid ((w4.alloc ZiA).1[w4.1.size]? = some ZiA) := Z02 w4 _
   have rN : Hid (Below w4.1.size w4 (w4.alloc ZiA)) := (Z9 _ w4).alloc (Z1 _) _
   unfold ZiA at rM rN
   have wV := Z0 rV
   have vR := Z0 uK
   have d4 : decide ((m.ps.length : Int) < (m.ps.length : Int)) = false := Kad (by omega)
   clear pK hF pG hk qU qW qV qX sE sJ sK rA rB
   go_wp2_with fail
   go_loopw [103] (fun i wx => ∃ (j : Nat) (v : Value), j <= ls.length /\ i = .int .i64 j /\ Below w4.1.size w4 wx /\ w4.1.size + 1 <= wx.1.size /\ wx.1[w4.1.size]? = some (.cells #[v, .int .i64 0, .int .i64 0, .int .i64 0, .int .i64 0, .int .i64 0, .int .i64 0, .int .i64 0, .int .i64 0, .int .i64 0, .int .i64 0, .int .i64 0] 44) /\ wx.ownsRow (w4.1.size + 1) 42 8 v j (((List.range j).map (fun (j : Nat) => Z1r (j : Int) (Z0p zs (Z3p m bar B R ls zs) m.ps.length j))).flatMap lnC)) (fun i _ => ls.length - (intOf i).toNat)
   case atStart => exact ⟨0, _, ZE _, rfl, rN.out, by simp, rM.out, Kbb _ _ _ _⟩
   case round =>
    clear rM rN d4
    obtain ⟨j, v, hj, rfl, pJ, vQ, rO, hO⟩ := hrel
    have qN := Z0 pJ
    have pY := Z0 rO
    obtain ⟨va, vc, rfl⟩ := Z0F hO
    have HO := Z0 hO
    by_cases rP : j < ls.length
    ·have pX := HF.out.below pJ
     have vS := pX.row.cell rP
     have rQ := OwnsLn.rd (pX.own j rP)
     generalize F j = fv at vS rQ
     have rR := Z0 rQ
     obtain ⟨S, hS⟩ : ∃ S, S = Z1r (j : Int) (Z0p zs (Z3p m bar B R ls zs) m.ps.length j) := ⟨_, rfl⟩
     have rS : Hid (∀ W, Below wr.1.size wr W -> Calls Tryz.prog 67 #[.int .i64 (j : Int), fv] W fun e w' => e = .returned (.agg #[.int .i64 S.level, .int .i64 S.pieces, .int .i64 S.barred, .int .i64 S.grams, .int .i64 S.base, .int .i64 S.bar, .int .i64 S.saved, .int .i64 S.cents]) /\ Below W.1.size W w') := fun W hW => by
      have := ZgJ (m := 1000000) (j : Int) _ fv W (rR.out.below hW) (Zaa pS.out) (by omega) (Kaw (Z5r _ _ _ _) (by omega))
      rw [<- hS] at this
      exact this
     have vT : Hid ((List.range (j + 1)).map (fun (j : Nat) => Z1r (j : Int) (Z0p zs (Z3p m bar B R ls zs) m.ps.length j)) = ((List.range j).map (fun (j : Nat) => Z1r (j : Int) (Z0p zs (Z3p m bar B R ls zs) m.ps.length j))) ++ [S]) := by rw [hS]; show _ = _; rw [Kaq, ZD]; rfl
     have rT : ∀ W, Below wr.1.size wr W -> W.cell? ⟨w4.1.size, 0, none⟩ = some (.slice va j vc) /\ W.frozen? ⟨w4.1.size, 0, none⟩ = false := fun W hW => by
      have h1 := (hW.block w4.1.size (by omega)).trans pY.out
      exact ⟨Kaa _ _ 0 _ _ _ h1, Z03 h1⟩
     have tU := Z0 rT
     obtain ⟨b3, f3⟩ := rT wr (Z9 _ _)
     have tV : Hid (∀ b, (Value.slice va j vc).ownBlock = some b -> w4.1.size + 1 <= b) := fun b hb => (HO.out.lt b hb).1
     have vU : Hid (∀ w9 : World, (∀ b, b < w4.1.size + 1 -> w9.1[b]? = wr.1[b]?) -> w9.cell? ⟨w4.1.size, 0, none⟩ = some (.slice va j vc) /\ w9.frozen? ⟨w4.1.size, 0, none⟩ = false) := fun w9 h9 => by
      have h1 := (h9 w4.1.size (by omega)).trans pY.out
      exact ⟨Kaa _ _ 0 _ _ _ h1, Z03 h1⟩
     obtain ⟨i0, hi⟩ := info_parts Tryz.infoLine
     have HI := Z0 hi
     have wW : w3.1.size < wr.1.size := by omega
     clear rT hi pJ rO hO pX rQ hS
     go_wp2_with fail
     go_region_law (first | (refine step_append_lies _ (by rfl) _ _ _ (by rfl) (w4.1.size + 1) 42 i0 (.agg #[.int .i64 0, .int .i64 0, .int .i64 0, .int .i64 0, .int .i64 0, .int .i64 0, .int .i64 0, .int .i64 0]) 8 64 Tryz.underlying40 HI.out.1 HI.out.2.1 HI.out.2.2.1 HI.out.2.2.2 rfl (by decide) (.slice va j vc) j _ (by rfl) ((Z09 HO.out pD).alloc _) ⟨wC.1.size, 0, none⟩ 1 1 (lnC S) (by rfl) (by rfl) (Z0f wC _ _) (by simp [Value.oneCell', lnC]) (by omega) (by unfold maxLen; omega) (by omega) (by have := pD.size; show _ <= (wC.alloc _).1.size; rw [Z6]; omega) _ rfl ?_; intro g9 cap9 w9 qM pW tR wX; have tW : Hid (∀ b, b < w4.1.size + 1 -> w9.1[b]? = wr.1[b]?) := (fun b hb => (pW.block b (by have := pD.size; show b < (wC.alloc _).1.size; rw [Z6]; omega) (fun e => by have := tV.out b e.symm; omega)).trans ((show (wC.alloc _).1[b]? = _ from ZB _ _ _ (by have := pD.size; omega)).trans (pD.block b (by omega)))); obtain ⟨e9, f9⟩ := vU.out w9 tW.out) | (go_simp; go_at_call 67; refine (rS.out _ (Z9 _ wr).drew).mono ?_; rintro e wC ⟨rfl, tX⟩; have pD : Below wr.1.size wr wC := (Z9 _ wr).drew.trans tX; clear tX; obtain ⟨bC3, fC3⟩ := tU.out wC pD; have wY : (wC.alloc (.cells #[.int .i64 S.level, .int .i64 S.pieces, .int .i64 S.barred, .int .i64 S.grams, .int .i64 S.base, .int .i64 S.bar, .int .i64 S.saved, .int .i64 S.cents] 42)).cell? ⟨w4.1.size, 0, none⟩ = some (.slice va j vc) := (tU.out _ (pD.alloc pD.size _)).1))
     all_goals
      go_wp2_with fail
      go_roundw
      case rel =>
       have h9 : w9.1[w4.1.size]? = _ := (tW.out _ (by omega)).trans pY.out
       have tY : Below w4.1.size w4 (wC.alloc (.cells #[.int .i64 S.level, .int .i64 S.pieces, .int .i64 S.barred, .int .i64 S.grams, .int .i64 S.base, .int .i64 S.bar, .int .i64 S.saved, .int .i64 S.cents] 42)) := (qN.out.trans (pD.mono qN.out.size)).alloc (Kaw qN.out.size pD.size) _
       refine ⟨j + 1, .slice (some ⟨g9, 0, none⟩) (j + 1) cap9, by omega, by go_num, ?_, ?_, ?_, ?_⟩
       ·exact (tY.grown pW tY.size (fun r e => by have := tV.out r e; omega)).setCell (p := ⟨w4.1.size, 0, none⟩) (Z1 _) _
       ·have h1 := pW.size
        have h2 := pD.size
        rw [Z6] at h1
        simp [World.setCell]; omega
       ·show (w9.1.modify w4.1.size _)[w4.1.size]? = _
        rw [Kap, if_pos rfl, h9]
        rfl
       ·rw [vT.out, Kai, Kao, Kct, Ka1]
        exact qM.kept (Z08 _ _ _) (.inr (by show some g9 ≠ some w4.1.size; have := (qM.lt g9 rfl).1; intro e; injection e; omega))
      case measure => simp [intOf]; omega
    ·obtain rfl : j = ls.length := by omega
     obtain ⟨LL, pQ⟩ : ∃ LL, LL = (List.range ls.length).map (fun (j : Nat) => Z1r (j : Int) (Z0p zs (Z3p m bar B R ls zs) m.ps.length j)) := ⟨_, rfl⟩
     have hO' := HO.out
     rw [<- pQ] at hO'
     have qD : LL.length = ls.length := by rw [pQ, Z7, Kay]
     have rU : OwnsLn wr (w4.1.size + 1) (.slice va ls.length vc) LL := by show wr.ownsRow _ _ _ _ LL.length _; rw [qD]; exact hO'
     have rR := Z0 (OwnsLn.rd rU)
     have vV := Z0 rU
     have vW : Hid (∀ x ∈ LL, LnIn 2000000000 x) := fun x hx => by
      rw [pQ] at hx
      obtain ⟨i, _, rfl⟩ := Kae.1 hx
      exact (Z6e _ (Zaa pS.out)).mono (by have := Z5r zs (Z3p m bar B R ls zs) m.ps.length i; have := vR.out; omega)
     obtain ⟨T, hT⟩ : ∃ T, T = Z1r (ls.length : Int) LL := ⟨_, rfl⟩
     have rS : Hid (∀ W, Below wr.1.size wr W -> Calls Tryz.prog 67 #[.int .i64 (ls.length : Int), .slice va ls.length vc] W fun e w' => e = .returned (.agg #[.int .i64 T.level, .int .i64 T.pieces, .int .i64 T.barred, .int .i64 T.grams, .int .i64 T.base, .int .i64 T.bar, .int .i64 T.saved, .int .i64 T.cents]) /\ Below W.1.size W w') := fun W hW => by
      have := ZgJ (m := 2000000000) (ls.length : Int) LL _ W (rR.out.below hW) vW.out (by omega) (by omega)
      rw [<- hT] at this
      exact this
     have vX : Hid (∀ v, Z6p (Z5x zs (Z3p m bar B R ls zs) m.ps.length ls.length nb nt nc) v = .agg #[v, .int .i64 T.level, .int .i64 T.pieces, .int .i64 T.barred, .int .i64 T.grams, .int .i64 T.base, .int .i64 T.bar, .int .i64 T.saved, .int .i64 T.cents, .int .i64 nb, .int .i64 nt, .int .i64 nc]) := fun v => by rw [hT, pQ]; rfl
     have pC : Hid ((Z5x zs (Z3p m bar B R ls zs) m.ps.length ls.length nb nt nc).lines = LL) := pQ.symm
     have vY : Hid (∀ w7, Below wr.1.size wr w7 -> w7.1[w.1.size + 1 + 1]? = w3.1[w.1.size + 1 + 1]? /\ w7.1[w.1.size + 1 + 1 + 1]? = w3.1[w.1.size + 1 + 1 + 1]? /\ w7.1[w4.1.size]? = wr.1[w4.1.size]? /\ Below w.1.size w w7) := fun w7 h7 => by
      have c1 := Z01 pT.out pT.out.size qN.out
      have c2 := Z01 c1 c1.size h7
      exact ⟨c2.block _ (by omega), c2.block _ (by omega), h7.block _ (by omega), Z01 pP.out pP.out.size c2⟩
     have b0 := Kaa _ _ 0 _ _ _ pY.out
     have d4 : decide ((ls.length : Int) < (ls.length : Int)) = false := Kad (by omega)
     clear pJ rO hO hO' rU qD hT pQ rP hj pS HF
     go_wp2_with (go_at_call 67; refine (rS.out _ (Z9 _ _)).mono ?_; rintro e w7 ⟨rfl, pN⟩; obtain ⟨k1, k2, k3, vZ⟩ := vY.out w7 pN; have qO := Z0 (Z09 vV.out pN); have kL := k1.trans uO.out; have kM := k2.trans uP.out; have kB := k3.trans pY.out; have KL := Z0 kL; have KM := Z0 kM; have KB := Z0 kB; have s7 := pN.size; have l0 := Kaa _ _ 0 _ _ _ kL; have l1 := Kaa _ _ 1 _ _ _ kL; have l2 := Kaa _ _ 2 _ _ _ kL; have f0 := Z03 (j := 0) kB; have f1 := Z03 (j := 1) kB; have f2 := Z03 (j := 2) kB; have f3 := Z03 (j := 3) kB; have f4 := Z03 (j := 4) kB; have f5 := Z03 (j := 5) kB; have f6 := Z03 (j := 6) kB; have f7 := Z03 (j := 7) kB; have f8 := Z03 (j := 8) kB; have f9 := Z03 (j := 9) kB; have f10 := Z03 (j := 10) kB; have f11 := Z03 (j := 11) kB; have e1 := Kaa _ _ 1 _ _ _ kB; have e2 := Kaa _ _ 2 _ _ _ kB; have e3 := Kaa _ _ 3 _ _ _ kB; have e4 := Kaa _ _ 4 _ _ _ kB; have e5 := Kaa _ _ 5 _ _ _ kB; have e6 := Kaa _ _ 6 _ _ _ kB; have e7 := Kaa _ _ 7 _ _ _ kB; have e8 := Kaa _ _ 8 _ _ _ kB; have e9 := Kaa _ _ 9 _ _ _ kB; have e10 := Kaa _ _ 10 _ _ _ kB; have e11 := Kaa _ _ 11 _ _ _ kB; clear pN k1 k2 k3 kL kM kB)
     obtain ⟨W8, qP⟩ : ∃ x, x = ((((((((w7.setCell ⟨w4.1.size, 1, none⟩ (.int .i64 T.level)).setCell ⟨w4.1.size, 2, none⟩ (.int .i64 T.pieces)).setCell ⟨w4.1.size, 3, none⟩ (.int .i64 T.barred)).setCell ⟨w4.1.size, 4, none⟩ (.int .i64 T.grams)).setCell ⟨w4.1.size, 5, none⟩ (.int .i64 T.base)).setCell ⟨w4.1.size, 6, none⟩ (.int .i64 T.bar)).setCell ⟨w4.1.size, 7, none⟩ (.int .i64 T.saved)).setCell ⟨w4.1.size, 8, none⟩ (.int .i64 T.cents)) := ⟨_, rfl⟩
     have G8 : w7.grownBy W8 (some w4.1.size) := by rw [qP]; exact Zh6 _ _ _ _ _ _ _ _ _ _
     have kB8 : W8.1[w4.1.size]? = some (.cells #[.slice va ls.length vc, .int .i64 T.level, .int .i64 T.pieces, .int .i64 T.barred, .int .i64 T.grams, .int .i64 T.base, .int .i64 T.bar, .int .i64 T.saved, .int .i64 T.cents, .int .i64 0, .int .i64 0, .int .i64 0] 44 (0, 0)) := by rw [qP]; exact ZkH KB.out
     rw [<- qP]
     have kL8 := (G8.block (w.1.size + 1 + 1) (by omega) (by intro e; injection e; omega)).trans KL.out
     have kM8 := (G8.block (w.1.size + 1 + 1 + 1) (by omega) (by intro e; injection e; omega)).trans KM.out
     have s8 := G8.size
     have tZ := Z0 G8
     have KB8 := Z0 kB8
     have KM8 := Z0 kM8
     clear qP l0 l1 l2 f0 f1 f2 f3 f4 f5 f6 f7 f8 f9 f10 f11 e1 e2 e3 e4 e5 e6 e7 e8 e9 e10 e11 KL KB KM G8
     have l0 := Kaa _ _ 0 _ _ _ kL8
     have l1 := Kaa _ _ 1 _ _ _ kL8
     have l2 := Kaa _ _ 2 _ _ _ kL8
     have f9 := Z03 (j := 9) kB8
     have f10 := Z03 (j := 10) kB8
     have f11 := Z03 (j := 11) kB8
     have e9 := Kaa _ _ 9 _ _ _ kB8
     have e10 := Kaa _ _ 10 _ _ _ kB8
     have e11 := Kaa _ _ 11 _ _ _ kB8
     have uA : ∀ W', W8.grownBy W' (some w4.1.size) -> W'.cell? ⟨w.1.size + 1 + 1, 0, none⟩ = some (.slice ab nb cb) /\ W'.cell? ⟨w.1.size + 1 + 1, 1, none⟩ = some (.slice at' nt ct) /\ W'.cell? ⟨w.1.size + 1 + 1, 2, none⟩ = some (.slice ac nc cc) := fun W' h => by
      have h1 := (h.block (w.1.size + 1 + 1) (by omega) (by intro e; injection e; omega)).trans kL8
      exact ⟨Kaa _ _ 0 _ _ _ h1, Kaa _ _ 1 _ _ _ h1, Kaa _ _ 2 _ _ _ h1⟩
     have wA := Z0 uA
     have wB : w4.1.size ≠ w.1.size + 1 + 1 := by omega
     have uB : W8.grownBy W8.drew (some w4.1.size) := ⟨rfl, rfl, rfl, Z1 _, fun _ _ _ => rfl⟩
     have wD := Z0 uB
     clear kB8 kL8 kM8 uA uB
     go_cut [] from 123 to 134 (fun wx => W8.grownBy wx (some w4.1.size) /\ wx.1[w4.1.size]? = some (.cells #[.slice va ls.length vc, .int .i64 T.level, .int .i64 T.pieces, .int .i64 T.barred, .int .i64 T.grams, .int .i64 T.base, .int .i64 T.bar, .int .i64 T.saved, .int .i64 T.cents, .int .i64 nb, .int .i64 nt, .int .i64 nc] 44 (0, 0)))
     case first =>
      go_region_held3 (fun w' => w'.cell? ⟨w.1.size + 1 + 1, 0, none⟩ = some (.slice ab nb cb) /\ w'.cell? ⟨w.1.size + 1 + 1, 1, none⟩ = some (.slice at' nt ct) /\ w'.cell? ⟨w.1.size + 1 + 1, 2, none⟩ = some (.slice ac nc cc))
       (first | exact wA.out _ wD.out | (simp only [Z9o wB, Zgb]; exact ⟨l0, l1, l2⟩))
       (fail)
      go_wp2_with fail
      go_meet
      exact ⟨ZiX _ _ _ _ _, ZkF KB8.out⟩
     case rest =>
      obtain ⟨G9, kB9⟩ := hcut
      have q4 := (G9.block (w.1.size + 1 + 1 + 1) (by omega) (by intro e; injection e; omega)).trans KM8.out
      have f0 := Z03 (j := 0) q4; have e0 := Kaa _ _ 0 _ _ _ q4; have f1 := Z03 (j := 1) q4; have e1 := Kaa _ _ 1 _ _ _ q4; have f2 := Z03 (j := 2) q4; have e2 := Kaa _ _ 2 _ _ _ q4; have f3 := Z03 (j := 3) q4; have e3 := Kaa _ _ 3 _ _ _ q4; have f4 := Z03 (j := 4) q4; have e4 := Kaa _ _ 4 _ _ _ q4; have f5 := Z03 (j := 5) q4; have e5 := Kaa _ _ 5 _ _ _ q4; have f6 := Z03 (j := 6) q4; have e6 := Kaa _ _ 6 _ _ _ q4; have f7 := Z03 (j := 7) q4; have e7 := Kaa _ _ 7 _ _ _ q4; have f8 := Z03 (j := 8) q4; have e8 := Kaa _ _ 8 _ _ _ q4; have f9 := Z03 (j := 9) q4; have e9 := Kaa _ _ 9 _ _ _ q4; have f10 := Z03 (j := 10) q4; have e10 := Kaa _ _ 10 _ _ _ q4; have f11 := Z03 (j := 11) q4; have e11 := Kaa _ _ 11 _ _ _ q4
      have d0 := Kaa _ _ 0 _ _ _ kB9; have d1 := Kaa _ _ 1 _ _ _ kB9; have d2 := Kaa _ _ 2 _ _ _ kB9; have d3 := Kaa _ _ 3 _ _ _ kB9; have d4 := Kaa _ _ 4 _ _ _ kB9; have d5 := Kaa _ _ 5 _ _ _ kB9; have d6 := Kaa _ _ 6 _ _ _ kB9; have d7 := Kaa _ _ 7 _ _ _ kB9; have d8 := Kaa _ _ 8 _ _ _ kB9; have d9 := Kaa _ _ 9 _ _ _ kB9; have d10 := Kaa _ _ 10 _ _ _ kB9; have d11 := Kaa _ _ 11 _ _ _ kB9
      have Q4 := Z0 q4
      have uC := Z0 G9
      have s9 := G9.size
      clear q4 kB9 G9
      go_wp2_with fail
      refine bodyPost_ret (results_cell_tmp rfl _ _ (w.1.size + 1 + 1 + 1) _ rfl (run_loadVar_row _ _ _ _ _ _ _ (Zk7 Q4.out) Tryz.underlying44 rfl (by kernel_rfl))) rfl ?_
      have pN := vZ
      have wE := pN.size
      have tT : w.1.size + 1 + 1 + 1 < w4.1.size := by omega
      refine ⟨.slice va ls.length vc, ?_, ?_, ?_⟩
      ·rw [vX.out]
       rfl
      ·exact Z6J ((pN.grown tZ.out wE (fun r e => by injection e; omega)).grown uC.out (by omega) (fun r e => by injection e; omega)) (by omega)
      ·rw [pC.out]
       exact Z6h (((qO.out.kept tZ.out (ZcE qO.out.lt (by omega))).kept uC.out (ZcE qO.out.lt (by omega))).kept (Zcj _ _ _ _ _ _ _ _ _ _ _ _ _ _) (ZcE qO.out.lt (by omega))) (by omega)
end Go.Proofs.YtlgajongmkhcnaaGreatDoor
