import Derived.Test.YtlgajongmkhcnaaGreatDoorQWK
import Derived.Test.YtlgajongmkhcnaaGreatDoorQWL
set_option maxRecDepth 100000
set_option linter.unusedVariables false
set_option linter.unusedSimpArgs false
set_option maxHeartbeats 32000000
namespace Go.Proofs.YtlgajongmkhcnaaGreatDoor
open Go.RowKit Go.Sort
theorem Z6l {m : Mai} {vr vz vl vp vn vb vt vc : Value} {E : Int} (w : World) (pE : ∃ a n c, vr = .slice a n c) (pF : ∃ a n c, vz = .slice a n c) (pG : ∃ a n c, vl = .slice a n c) (pH : ∃ a n c, vp = .slice a n c) (pI : ∃ a n c, vn = .slice a n c)
 (pJ : ∃ a n c, vb = .slice a n c) (pK : ∃ a n c, vt = .slice a n c) (pL : ∃ a n c, vc = .slice a n c) (hE : E ≠ 0)
 (pD : ∀ W, Below w.1.size w W -> Calls Tryz.prog 13 #[.agg #[vr, vz], vl, Z0N m vp, vn] W fun e w' => e = .returned (.tuple #[.slice none 0 0, .int .i64 E]) /\ Below W.1.size W w') :
 Calls Tryz.prog 28 #[.agg #[vr, vz], vl, Z0N m vp, vn, .agg #[vb, vt, vc]] w fun e w' => e = .returned (.tuple #[Z4z, .int .i64 E]) /\ Below w.1.size w w' := by
 obtain ⟨ar, nr, cr, rfl⟩ := pE
 obtain ⟨az, nz, cz, rfl⟩ := pF
 obtain ⟨al, nl, cl, rfl⟩ := pG
 obtain ⟨ap, np, cp, rfl⟩ := pH
 obtain ⟨an, nn, cn, rfl⟩ := pI
 obtain ⟨ab, nb, cb, rfl⟩ := pJ
 obtain ⟨at', nt, ct, rfl⟩ := pK
 obtain ⟨ac, nc, cc, rfl⟩ := pL
 have pM := Z0 pD
 have hq : (E != 0) = true := by simp [hE]
 obtain ⟨t1, t2, t3, t4, t5, t6⟩ := Z37 (w := w) (A := .cells #[.slice ar nr cr, .slice az nz cz] 29) (B := .cells #[.int .u8 m.cls, .int .u8 m.ctr, .string m.origin, .slice ap np cp] 34) (C := .cells #[.slice ab nb cb, .slice at' nt ct, .slice ac nc cc] 52) (D := Zan) rfl
 unfold Zan at t1 t2 t3 t4 t5 t6
 obtain ⟨W0, pB⟩ : ∃ W0, W0 = ((((w.alloc (.cells #[.slice ar nr cr, .slice az nz cz] 29)).alloc (.cells #[.int .u8 m.cls, .int .u8 m.ctr, .string m.origin, .slice ap np cp] 34)).alloc (.cells #[.slice ab nb cb, .slice at' nt ct, .slice ac nc cc] 52)).alloc (.cells #[.slice none 0 0, .int .i64 0, .int .i64 0, .int .i64 0, .int .i64 0, .int .i64 0, .int .i64 0, .int .i64 0, .int .i64 0, .int .i64 0, .int .i64 0, .int .i64 0] 44)) := ⟨_, rfl⟩
 rw [<- pB] at t1 t2 t3 t4 t5 t6
 have pN := Z0 t4
 have pC := Z0 t6
 have pO := Z0 pB
 clear t1 t2 t3 t4 t6 pB pD hE
 unfold Z0N at *
 go_enter Tryz.func28, Tryz.ntmps28
 go_wp2_with fail
 rw [<- pO.out]
 refine (pM.out _ pC.out).mono ?_
 rintro e w1 ⟨rfl, pA⟩
 have q4 := (pA.block (w.1.size + 1 + 1 + 1) (by omega)).trans pN.out
 have f0 := Z00 (j := 0) q4; have e0 := Kaa _ _ 0 _ _ _ q4; have f1 := Z00 (j := 1) q4; have e1 := Kaa _ _ 1 _ _ _ q4; have f2 := Z00 (j := 2) q4; have e2 := Kaa _ _ 2 _ _ _ q4; have f3 := Z00 (j := 3) q4; have e3 := Kaa _ _ 3 _ _ _ q4; have f4 := Z00 (j := 4) q4; have e4 := Kaa _ _ 4 _ _ _ q4; have f5 := Z00 (j := 5) q4; have e5 := Kaa _ _ 5 _ _ _ q4; have f6 := Z00 (j := 6) q4; have e6 := Kaa _ _ 6 _ _ _ q4; have f7 := Z00 (j := 7) q4; have e7 := Kaa _ _ 7 _ _ _ q4; have f8 := Z00 (j := 8) q4; have e8 := Kaa _ _ 8 _ _ _ q4; have f9 := Z00 (j := 9) q4; have e9 := Kaa _ _ 9 _ _ _ q4; have f10 := Z00 (j := 10) q4; have e10 := Kaa _ _ 10 _ _ _ q4; have f11 := Z00 (j := 11) q4; have e11 := Kaa _ _ 11 _ _ _ q4
 have pP := Z0 q4
 have pQ := Z0 (Z01 pC.out pC.out.size pA)
 have pR := pA.size
 clear q4 pA
 go_wp2_with fail
 refine bodyPost_ret (results_cell_tmp rfl _ _ (w.1.size + 1 + 1 + 1) _ rfl (run_loadVar_row _ _ _ _ _ _ _ (Ze6 pP.out) Tryz.underlying44 rfl (by kernel_rfl))) rfl ?_
 exact ⟨rfl, Z2f pQ.out (by omega)⟩
end Go.Proofs.YtlgajongmkhcnaaGreatDoor
