import Derived.Test.YtlgajongmkhcnaaGreatDoorQUK
import Derived.Test.YtlgajongmkhcnaaGreatDoorQUM
import Derived.Deep.AppendLies
import Derived.Deep.RegionLaw
import Derived.Deep.RegionHeld3
import Derived.Deep.DrawnRows
import Derived.BigRegion
import Derived.Deep.DeepCutAuto
set_option maxRecDepth 100000
set_option linter.unusedVariables false
set_option linter.unusedSimpArgs false
set_option maxHeartbeats 32000000
namespace Go.Proofs.YtlgajongmkhcnaaGreatDoor
open Go.RowKit Go.Sort
abbrev ZeT (w : World) (g : Nat) (b1 b2 b3 b4 b5 b6 b7 b8 : Value) : World := ((((((((w.setCell ⟨g, 1, none⟩ b1).setCell ⟨g, 2, none⟩ b2).setCell ⟨g, 3, none⟩ b3).setCell ⟨g, 4, none⟩ b4).setCell ⟨g, 5, none⟩ b5).setCell ⟨g, 6, none⟩ b6).setCell ⟨g, 7, none⟩ b7).setCell ⟨g, 8, none⟩ b8)
theorem ZkH {w : World} {g : Nat} {a0 a1 a2 a3 a4 a5 a6 a7 a8 a9 a10 a11 b1 b2 b3 b4 b5 b6 b7 b8 : Value} {t : TypeId} {fr : Nat × Nat} (h : w.1[g]? = some (.cells #[a0, a1, a2, a3, a4, a5, a6, a7, a8, a9, a10, a11] t fr)) :
 (ZeT w g b1 b2 b3 b4 b5 b6 b7 b8).1[g]? = some (.cells #[a0, b1, b2, b3, b4, b5, b6, b7, b8, a9, a10, a11] t fr) := by
 simp [ZeT, World.setCell, Kap, h]
theorem Zh6 (w : World) (g : Nat) (b1 b2 b3 b4 b5 b6 b7 b8 : Value) : w.grownBy (ZeT w g b1 b2 b3 b4 b5 b6 b7 b8) (some g) :=
 ((((((((Z08 w ⟨g, 1, none⟩ b1).trans (Z08 _ ⟨g, 2, none⟩ b2)).trans (Z08 _ ⟨g, 3, none⟩ b3)).trans (Z08 _ ⟨g, 4, none⟩ b4)).trans (Z08 _ ⟨g, 5, none⟩ b5)).trans (Z08 _ ⟨g, 6, none⟩ b6)).trans (Z08 _ ⟨g, 7, none⟩ b7)).trans (Z08 _ ⟨g, 8, none⟩ b8))
theorem Z9o {w : World} {b j b' j' : Nat} {v : Value} (h : b ≠ b') : (w.setCell ⟨b, j, none⟩ v).cell? ⟨b', j', none⟩ = w.cell? ⟨b', j', none⟩ := World.cell?_setCell_far _ _ _ _ h
theorem Zgb {w : World} {a : Addr} : w.drew.cell? a = w.cell? a := rfl
theorem ZkP {a b : World} {r : Option Nat} (h : a.grownBy b r) : a.grownBy b.drew r := ⟨h.os, h.tape, h.output, h.size, h.block⟩
abbrev ZiW (w : World) (g : Nat) (b9 b10 b11 : Value) : World := ((w.setCell ⟨g, 9, none⟩ b9).setCell ⟨g, 10, none⟩ b10).setCell ⟨g, 11, none⟩ b11
theorem ZkF {w : World} {g : Nat} {a0 a1 a2 a3 a4 a5 a6 a7 a8 a9 a10 a11 b9 b10 b11 : Value} {t : TypeId} {fr : Nat × Nat} (h : w.1[g]? = some (.cells #[a0, a1, a2, a3, a4, a5, a6, a7, a8, a9, a10, a11] t fr)) :
 (ZiW w g b9 b10 b11).1[g]? = some (.cells #[a0, a1, a2, a3, a4, a5, a6, a7, a8, b9, b10, b11] t fr) := by
 simp [ZiW, World.setCell, Kap, h]
theorem ZiX (w : World) (g : Nat) (b9 b10 b11 : Value) : w.grownBy (ZiW w g b9 b10 b11).drew (some g) :=
 ZkP (((Z08 w ⟨g, 9, none⟩ b9).trans (Z08 _ ⟨g, 10, none⟩ b10)).trans (Z08 _ ⟨g, 11, none⟩ b11))
theorem Zcg {ls : List Lev} {m : Mai} {zs : List Int} {bar : Int} {B R : Nat -> Int} {vr vz vp vl vn vb vt vc : Value} {nb nt nc : Nat} (w : World)
 (Ij : RdPces w vp m.ps) (hr : RdLevs w vl ls) (hn : RdInts w vn zs) (Ik : ∃ a n c, vr = .slice a n c) (Il : ∃ a n c, vz = .slice a n c) (Im : ∃ a c, vb = .slice a nb c) (In : ∃ a c, vt = .slice a nt c) (Io : ∃ a c, vc = .slice a nc c)
 (Ip : m.ps.length <= 2000) (Ko : 1 <= ls.length /\ ls.length <= 6) (Fi : zs.length = m.ps.length) (Fj : ∀ x ∈ zs, 0 <= x /\ x < (ls.length : Int)) (Kp : nb <= 100000 /\ nt <= 100000 /\ nc <= 100000)
 (Fk : ∀ i, i < m.ps.length -> LnIn 1000000 (Z3p m bar B R ls zs i))
 (Fl : ∀ W, Below w.1.size w W -> Calls Tryz.prog 13 #[.agg #[vr, vz], vl, Z2r m vp, vn] W fun e w' => ∃ g, e = .returned (.tuple #[.slice (some ⟨g, 0, none⟩) m.ps.length m.ps.length, .int .i64 0]) /\ Below W.1.size W w' /\ W.1.size <= g /\
  w'.ownsRow W.1.size 3 1 (.slice (some ⟨g, 0, none⟩) m.ps.length m.ps.length) m.ps.length ((List.range m.ps.length).map (fun i => Value.int .i64 (R i))))
 (Dn : ∀ W, Below w.1.size w W -> Calls Tryz.prog 35 #[.agg #[vr, vz], Z2r m vp] W fun e w' => ∃ g, e = .returned (.tuple #[.slice (some ⟨g, 0, none⟩) m.ps.length m.ps.length, .int .i64 0]) /\ Below W.1.size W w' /\ W.1.size <= g /\
  w'.ownsRow W.1.size 3 1 (.slice (some ⟨g, 0, none⟩) m.ps.length m.ps.length) m.ps.length ((List.range m.ps.length).map (fun i => Value.int .i64 (B i))))
 (Fm : ∀ W, Below w.1.size w W -> Calls Tryz.prog 66 #[.agg #[vr, vz], .int .u8 m.cls] W fun e w' => e = .returned (.int .i64 bar) /\ Below W.1.size W w') :
 Calls Tryz.prog 28 #[.agg #[vr, vz], vl, Z2r m vp, vn, .agg #[vb, vt, vc]] w fun e w' => ∃ v, e = .returned (.tuple #[Z6p (Z5x zs (Z3p m bar B R ls zs) m.ps.length ls.length nb nt nc) v, .int .i64 0]) /\ Below w.1.size w w' /\
  OwnsLn w' w.1.size v (Z5x zs (Z3p m bar B R ls zs) m.ps.length ls.length nb nt nc).lines := by
 obtain ⟨ar, nr, cr, rfl⟩ := Ik
 obtain ⟨az, nz, cz, rfl⟩ := Il
 obtain ⟨ab, cb, rfl⟩ := Im
 obtain ⟨at', ct, rfl⟩ := In
 obtain ⟨ac, cc, rfl⟩ := Io
 obtain ⟨ap, cp, rfl, Fn⟩ := Ij
 obtain ⟨al, cl, rfl, Dq⟩ := hr
 obtain ⟨an, cn, rfl, Fo⟩ := hn
 have Em := Z0 Fn
 have En := Z0 Dq
 have Eo := Z0 Fo
 have Ep := Z0 Fj
 have Fp := Z0 Fi
 have Dr := Z0 Fk
 have Eq := Z0 Fl
 have Df := Z0 Dn
 have Fq := Z0 Fm
 obtain ⟨t1, t2, t3, t4, t5, t6⟩ := Z6r (w := w) (A := .cells #[.slice ar nr cr, .slice az nz cz] 29) (B := .cells #[.int .u8 m.cls, .int .u8 m.ctr, .string m.origin, .slice ap m.ps.length cp] 34) (C := .cells #[.slice ab nb cb, .slice at' nt ct, .slice ac nc cc] 52) (D := ZiA) rfl
 unfold ZiA at t1 t2 t3 t4 t5 t6
 obtain ⟨W0, Er⟩ : ∃ W0, W0 = ((((w.alloc (.cells #[.slice ar nr cr, .slice az nz cz] 29)).alloc (.cells #[.int .u8 m.cls, .int .u8 m.ctr, .string m.origin, .slice ap m.ps.length cp] 34)).alloc (.cells #[.slice ab nb cb, .slice at' nt ct, .slice ac nc cc] 52)).alloc (.cells #[.slice none 0 0, .int .i64 0, .int .i64 0, .int .i64 0, .int .i64 0, .int .i64 0, .int .i64 0, .int .i64 0, .int .i64 0, .int .i64 0, .int .i64 0, .int .i64 0] 44)) := ⟨_, rfl⟩
 rw [<- Er] at t1 t2 t3 t4 t5 t6
 have Fr := fun W => run_make_row' (P := Tryz.prog) 157 40 (.slice none 0 0) 24 Tryz.underlying157 Tryz.infoSL rfl .i64 .i64 ls.length (by omega) (by omega) W
 clear Fn Dq Fo Fj Fi Fk Fl Dn Fm
 unfold Z2r at Eq Df ⊢
 go_enter Tryz.func28, Tryz.ntmps28
 go_wp2_with (first
  | (go_at_call 66; refine (Fq.out _ k5).mono ?_; rintro e w3 ⟨rfl, De⟩; have l2 := (De.block _ (by omega)).trans k2; have l3 := (De.block _ (by omega)).trans k3; have l4 := (De.block _ (by omega)).trans k4; have l5 := Z01 k5 k5.size De; have l6 : w.1.size + 4 <= w3.1.size := (by have := De.size; omega); have own1 := own1'.kept (Z0a De) (Kbm _); have own2 := Fs.kept (Z0a De) (Kbm _); have Kq := De.size; clear De k1 k2 k3 k4 k5 own1' Fs z10 z11 z20; have x23 := Kaa _ _ 3 _ _ _ l2; have Kr : w.1.size + 1 < w3.1.size := (by omega); have Iq := Fr w3)
  | (go_at_call 35; refine (Df.out _ j5).mono ?_; rintro e w2 ⟨G2, rfl, Da, Ir, Fs⟩; have k1 := (Da.block _ (by omega)).trans j1; have k2 := (Da.block _ (by omega)).trans j2; have k3 := (Da.block _ (by omega)).trans j3; have k4 := (Da.block _ (by omega)).trans j4; have k5 := Z01 j5 j5.size Da; have k6 : w.1.size + 4 <= w2.1.size := (by have := Da.size; omega); have own1' := Ft.kept (Z0a Da) (Kbm _); have Ks := Da.size; clear Da j1 j2 j3 j4 j5 Ft y10 y11 y20 y21 y22 y23; have z10 := Kaa _ _ 0 _ _ _ k1; have z11 := Kaa _ _ 1 _ _ _ k1; have z20 := Kaa _ _ 0 _ _ _ k2)
  | (go_at_call 13; rw [<- Er]; refine (Eq.out _ t6).mono ?_; rintro e w1 ⟨G1, rfl, Dd, Is, Ft⟩; have j1 := (Dd.block _ (by omega)).trans t1; have j2 := (Dd.block _ (by omega)).trans t2; have j3 := (Dd.block _ (by omega)).trans t3; have j4 := (Dd.block _ (by omega)).trans t4; have j5 := Z01 t6 t6.size Dd; have j6 : w.1.size + 4 <= w1.1.size := (by have := Dd.size; omega); clear Dd t1 t2 t3 t4; have y10 := Kaa _ _ 0 _ _ _ j1; have y11 := Kaa _ _ 1 _ _ _ j1; have y20 := Kaa _ _ 0 _ _ _ j2; have y21 := Kaa _ _ 1 _ _ _ j2; have y22 := Kaa _ _ 2 _ _ _ j2; have y23 := Kaa _ _ 3 _ _ _ j2))
 have Fv := Z0 own1
 have Fw := Z0 own2
 have It := Z0 l3
 have Iu := Z0 l4
 have Do := Z0 l5
 have Es := (own1.lt G1 rfl).2
 have Et := (own2.lt G2 rfl).2
 have Fx : Below w3.1.size w3 (w3.alloc (.cells (madeCells #[.slice none 0 0] ls.length) 40)) := (Z9 _ w3).alloc (Z1 _) _
 have Fy := Z0 Fx
 have Fz : LnF (w3.alloc (.cells (madeCells #[.slice none 0 0] ls.length) 40)) (w3.1.size + 1) w3.1.size ls.length (Z0p zs (Z3p m bar B R ls zs) 0) (fun _ => .slice none 0 0) := LnF.nil (World.rowIs_made w3 _ _ _)
 have Ga := Z0 Fz
 clear own1 own2 l2 l3 l4 l5 x23 Iq Fr Fx Fz Eq Df Fq k6 j6 t5 t6 Er Is Ir
 go_loopw [55] (fun i wr => ∃ (k : Nat) (F : Nat -> Value), k <= m.ps.length /\ i = .int .i64 k /\ Below w3.1.size w3 wr /\ w3.1.size + 1 <= wr.1.size /\ LnF wr (w3.1.size + 1) w3.1.size ls.length (Z0p zs (Z3p m bar B R ls zs) k) F) (fun i _ => m.ps.length - (intOf i).toNat)
 case atStart => exact ⟨0, _, ZE _, rfl, Fy.out, by simp, Ga.out⟩
 case round =>
  clear Fy Ga
  obtain ⟨k, F, hk, rfl, Di, Iv, hF⟩ := hrel
  by_cases Dj : k < m.ps.length
  ·have Ds := Z0 Di
   have HF := Z0 hF
   obtain ⟨g, off, rfl, hg, Gb⟩ := Em.out (by omega)
   have Kt : g < w3.1.size := by have := Do.out.size; omega
   have Dy := Do.out
   have e1 : ∀ (W : World), Below wr.1.size wr W -> ∀ g o, g < w3.1.size -> W.cell? ⟨g, o, none⟩ = w3.cell? ⟨g, o, none⟩ := fun W hW g o hg => (hW.cell (p := ⟨g, o, none⟩) (by have := Di.size; show g < wr.1.size; omega)).trans (Di.cell (p := ⟨g, o, none⟩) hg)
   have e0 : ∀ g o, g < w.1.size -> w3.cell? ⟨g, o, none⟩ = w.cell? ⟨g, o, none⟩ := fun g o hg => Dy.cell (p := ⟨g, o, none⟩) hg
   obtain ⟨p0, p1, p2, p3, p4⟩ := (Gb k Dj).below (Dy.trans (Di.mono Dy.size)) hg
   have Iw : g < wr.1.size := by omega
   have Dz : k < zs.length := by rw [Fp.out]; exact Dj
   obtain ⟨gz, oz, rfl, Gc, Gd⟩ := Eo.out (by omega)
   have Ea := Gd k Dz
   obtain ⟨s1, s2⟩ := Ep.out _ (Z4 Dz)
   obtain ⟨u, hu⟩ : ∃ u : Nat, zs[k] = u := ⟨zs[k].toNat, by omega⟩
   rw [hu] at Ea s2
   have Dg : u < ls.length := by omega
   have Eb : zs.getD k (-1) = (u : Int) := by rw [Z2, Z3 Dz]; exact hu
   obtain ⟨gl, ol, rfl, Ix, Dq⟩ := En.out (by omega)
   obtain ⟨lv, _, Ge⟩ := Dq u Dg
   have Gf := Ge.2.2.2.2
   have Dk : Z5I ls (zs.getD k (-1)) = ls[u].cents := by
    unfold Z5I
    rw [Eb, Kar, Z2, Z3 Dg]; rfl
   have Gg : m.ps.getD k ⟨0, 0, ⟨#[]⟩, 0, false⟩ = m.ps[k] := by rw [Z2, Z3 Dj]; rfl
   have Gh : Z3p m bar B R ls zs k = ⟨0, 1, if m.ps[k].barred then 1 else 0, m.ps[k].grams, B k, if m.ps[k].barred then bar else 0, ls[u].cents, R k⟩ := by
    unfold Z3p ZaT
    rw [Dk, Gg]
   have o1 : w3.cell? ⟨G1, k, none⟩ = some (.int .i64 (R k)) := by rw [Fv.out.cellAt k (by omega), Z4A Dj]
   have o2 : w3.cell? ⟨G2, k, none⟩ = some (.int .i64 (B k)) := by rw [Fw.out.cellAt k (by omega), Z4A Dj]
   have Db := Z0 Gh
   have Iy := (e1 wr (Z9 _ _) gz (oz + k) (by omega)).trans ((e0 gz (oz + k) Gc).trans Ea)
   have Gi := (e1 wr (Z9 _ _) gl (ol + u * 5 + 4) (by omega)).trans ((e0 gl (ol + u * 5 + 4) Ix).trans Gf)
   have q1 := (e1 wr (Z9 _ _) G1 k Es).trans o1
   have q2 := (e1 wr (Z9 _ _) G2 k Et).trans o2
   have Iz : gz < wr.1.size := by omega
   have Ja : gl < wr.1.size := by omega
   have Jb : G1 < wr.1.size := by omega
   have Jc : G2 < wr.1.size := by omega
   have d4 : decide ((k : Int) < (m.ps.length : Int)) = true := Kac (by omega)
   have Jd := Z0 (Dr.out k Dj)
   have Ec := Z5r zs (Z3p m bar B R ls zs) k u
   have Gj := Z0 (Zab zs (Z3p m bar B R ls zs) Eb)
   have Je : Hid (∀ j : Nat, j ≠ u -> Z0p zs (Z3p m bar B R ls zs) (k + 1) j = Z0p zs (Z3p m bar B R ls zs) k j) := fun j hj => Za9 zs _ (by rw [Eb]; omega)
   have Jf := Z0 e1
   have Jg := Z0 ((e0 gz (oz + k) Gc).trans Ea)
   clear Gb Gd Dq Ge Gf Ea hu Eb Dk Gg Gh o1 o2 e1 e0 Di hF Dy s1 Em Eo En Ep Dr
   generalize Z3p m bar B R ls zs k = pk at Db Jd Gj
   generalize ls[u] = l at Gi Db
   generalize m.ps[k] = p at p0 p1 p2 p3 p4 Db
   generalize R k = rk at q1 Db
   generalize B k = bk at q2 Db
   go_wp2_with fail
   go_region
   go_upto_if 80 with fail
   obtain ⟨n1, n2, n3, n4⟩ := Z25 (w := wr) (A := .cells #[.int .i64 p.id, .int .i64 p.point, .string p.code, .int .i64 p.grams, .bool p.barred] 65) (B := .cells #[.int .i64 0, .int .i64 1, .int .i64 0, .int .i64 p.grams, .int .i64 bk, .int .i64 0, .int .i64 l.cents, .int .i64 rk] 42) rfl
   obtain ⟨W1, Dt⟩ : ∃ W1, W1 = ((wr.alloc (.cells #[.int .i64 p.id, .int .i64 p.point, .string p.code, .int .i64 p.grams, .bool p.barred] 65)).alloc (.cells #[.int .i64 0, .int .i64 1, .int .i64 0, .int .i64 p.grams, .int .i64 bk, .int .i64 0, .int .i64 l.cents, .int .i64 rk] 42)).drew := ⟨_, rfl⟩
   have Dd : Below wr.1.size wr W1 := by rw [Dt]; exact n4.drew
   have Gk : W1.1.size = wr.1.size + 2 := by rw [Dt]; exact n3
   have Gl : W1.1[wr.1.size + 1]? = some (.cells #[.int .i64 0, .int .i64 1, .int .i64 0, .int .i64 p.grams, .int .i64 bk, .int .i64 0, .int .i64 l.cents, .int .i64 rk] 42 (0, 0)) := by rw [Dt]; exact n2
   rw [<- Dt]
   have Eu := Z0 Dd
   have Ev := Z0 Gk
   have Dl := Z0 Gl
   clear Dt n1 n2 n3 n4 q1 q2 Iy Gi p0 p1 p2 p3 p4 Dd Gk Gl Es Et Jb Jc Ja Iw Iz
   go_cut [] from 59 to 83 (fun wx => Below wr.1.size wr wx /\ wx.1.size = wr.1.size + 2 /\ ∃ b1 b2 : Int, Hid (pk = ⟨0, 1, b1, p.grams, bk, b2, l.cents, rk⟩) /\ wx.1[wr.1.size + 1]? = some (.cells #[.int .i64 0, .int .i64 1, .int .i64 b1, .int .i64 p.grams, .int .i64 bk, .int .i64 b2, .int .i64 l.cents, .int .i64 rk] 42 (0, 0)))
   case first =>
    have f2 := Z03 (j := 2) Dl.out
    have f5 := Z03 (j := 5) Dl.out
    have c2 := Kaa _ _ 2 _ _ _ Dl.out
    have c5 := Kaa _ _ 5 _ _ _ Dl.out
    cases Gm : p.barred
    ·rw [Gm] at Db
     go_wp2_with fail
     go_meet
     exact ⟨Eu.out, Ev.out, 0, 0, Db.out, Dl.out⟩
    ·rw [Gm] at Db
     go_wp2_with fail
     go_meet
     refine ⟨(Eu.out.setCell (p := ⟨wr.1.size + 1, 2, none⟩) (Kbd _) _).setCell (p := ⟨wr.1.size + 1, 5, none⟩) (Kbd _) _, by simp [World.setCell]; exact Ev.out, 1, bar, Db.out, ?_⟩
     have h := Dl.out
     simp [World.setCell, Kap, h]
   case rest =>
    obtain ⟨Da, Gn, b1, b2, Gp, Ew⟩ := hcut
    obtain ⟨W2, Jh⟩ : ∃ W2, W2 = wc := ⟨_, rfl⟩
    subst Jh
    clear Eu Ev Dl Db
    go_wp2_with fail
    have Ji := Gp
    have Ku := Z0 Gn
    have Jj := Z0 Ew
    clear Gn Gp
    have hz := (Jf.out W2 Da gz (oz + k) (by have := Do.out.size; omega)).trans Jg.out
    have Gq : ∀ w' : World, w'.1[gz]? = W2.1[gz]? -> w'.1[wr.1.size + 1]? = W2.1[wr.1.size + 1]? -> w'.cell? ⟨gz, oz + k, none⟩ = some (.int .i64 u) /\ w'.cell? ⟨wr.1.size + 1, 0, none⟩ = some (.int .i64 0) /\ w'.cell? ⟨wr.1.size + 1, 1, none⟩ = some (.int .i64 1) /\ w'.cell? ⟨wr.1.size + 1, 2, none⟩ = some (.int .i64 b1) /\ w'.cell? ⟨wr.1.size + 1, 3, none⟩ = some (.int .i64 p.grams) /\ w'.cell? ⟨wr.1.size + 1, 4, none⟩ = some (.int .i64 bk) /\ w'.cell? ⟨wr.1.size + 1, 5, none⟩ = some (.int .i64 b2) /\ w'.cell? ⟨wr.1.size + 1, 6, none⟩ = some (.int .i64 l.cents) /\ w'.cell? ⟨wr.1.size + 1, 7, none⟩ = some (.int .i64 rk) := fun w' h1 h2 => by
     have h3 := h2.trans Jj.out
     exact ⟨(Kak (w := W2) h1).trans hz, Kaa _ _ 0 _ _ _ h3, Kaa _ _ 1 _ _ _ h3, Kaa _ _ 2 _ _ _ h3, Kaa _ _ 3 _ _ _ h3, Kaa _ _ 4 _ _ _ h3, Kaa _ _ 5 _ _ _ h3, Kaa _ _ 6 _ _ _ h3, Kaa _ _ 7 _ _ _ h3⟩
    have Ed := Z0 Gq
    have Ee := HF.out.below Da
    have Dk := Ee.row.cell Dg
    have Jk := Ee.row.frozen u
    have Du := Ee.own u Dg
    obtain ⟨Fu, Ef⟩ : ∃ f, f = F u := ⟨_, rfl⟩
    have Jl : ∃ fa fc, Fu = .slice fa (Z0p zs (Z3p m bar B R ls zs) k u).length fc := by
     rw [Ef]
     rcases Joins.ownsRow_forms Du with ⟨e, hp⟩ | ⟨gf, cf, e⟩
     ·exact ⟨none, 0, by rw [e, hp]⟩
     ·exact ⟨_, cf, e⟩
    rw [<- Ef] at Dk Du
    have Eg := Z0 Ef
    obtain ⟨fa, fc, rfl⟩ := Jl
    obtain ⟨bn, Ex⟩ : ∃ n, n = (Z0p zs (Z3p m bar B R ls zs) k u).length := ⟨_, rfl⟩
    rw [<- Ex] at Dk Du Eg Ec
    have Gr := Z0 Ex
    have Gs := Z0 Du
    have Gt := Z0 Da
    have Gu : w3.1.size < W2.1.size := by have := Da.size; omega
    have Jm : gz < W2.1.size := by have := Da.size; omega
    have Jn : wr.1.size + 1 < W2.1.size := (Z5.1 Ew).1
    obtain ⟨i0, hi⟩ := info_parts Tryz.infoLine
    have HI := Z0 hi
    have Dn : Below W2.1.size W2 (W2.drew.alloc (.cells #[.int .i64 0, .int .i64 1, .int .i64 b1, .int .i64 p.grams, .int .i64 bk, .int .i64 b2, .int .i64 l.cents, .int .i64 rk] 42)) := (Z9 W2.1.size W2).drew.alloc (Z1 _) _
    have Df := Z0 Dn
    have Kv : (W2.alloc (.cells #[.int .i64 0, .int .i64 1, .int .i64 b1, .int .i64 p.grams, .int .i64 bk, .int .i64 b2, .int .i64 l.cents, .int .i64 rk] 42)).cell? ⟨w3.1.size, u, none⟩ = some (.slice fa bn fc) := (Dn.cell (p := ⟨w3.1.size, u, none⟩) Gu).trans Dk
    have Gv : Hid (∀ w9 : World, (W2.drew.alloc (.cells #[.int .i64 0, .int .i64 1, .int .i64 b1, .int .i64 p.grams, .int .i64 bk, .int .i64 b2, .int .i64 l.cents, .int .i64 rk] 42)).grownBy w9 (Value.slice fa bn fc).ownBlock -> ∀ b, b < w3.1.size + 1 \/ b = wr.1.size + 1 /\ (Value.slice fa bn fc).ownBlock ≠ some b -> w9.1[b]? = W2.1[b]?) := fun w9 hg b hb =>
     (hg.block _ (by show b < (W2.drew.alloc _).1.size; rw [Z6]; show b < W2.1.size + 1; rcases hb with h | h <;> omega) (fun e => by
      rcases hb with h | h
      ·have := (Gs.out.lt _ e.symm).1; omega
      ·exact h.2 e.symm)).trans (Df.out.block _ (by rcases hb with h | h <;> omega))
    have Gw : (Value.slice fa bn fc).ownBlock ≠ some (wr.1.size + 1) := fun e => by
     have h1 := (HF.out.own u Dg).lt (wr.1.size + 1) (by rw [<- Eg.out]; exact e)
     omega
    have Jo := Z0 Gw
    clear Ef Ex Du Ee Da Ew hi Gq Dn hz Gw
    have Kw : gz < w3.1.size := by have := Do.out.size; omega
    have Jp : gz ≠ w3.1.size := by omega
    have Jq : wr.1.size + 1 ≠ w3.1.size := by omega
    have Jr : w3.1.size < w3.1.size + 1 := Ka4 _
    have Js : gz < w3.1.size + 1 := by omega
    have Jt : ∀ v ∈ [Value.int .i64 0, Value.int .i64 1, Value.int .i64 b1, Value.int .i64 p.grams, Value.int .i64 bk, Value.int .i64 b2, Value.int .i64 l.cents, Value.int .i64 rk], v.oneCell' = true := by simp [Value.oneCell']
    have Eh : ∀ w9 : World, (W2.drew.alloc (.cells #[.int .i64 0, .int .i64 1, .int .i64 b1, .int .i64 p.grams, .int .i64 bk, .int .i64 b2, .int .i64 l.cents, .int .i64 rk] 42)).grownBy w9 (Value.slice fa bn fc).ownBlock -> w9.1[gz]? = W2.1[gz]? /\ w9.1[wr.1.size + 1]? = W2.1[wr.1.size + 1]? := fun w9 h => ⟨Gv.out w9 h _ (.inl Js), Gv.out w9 h _ (.inr ⟨rfl, Jo.out⟩)⟩
    refine Z2O (ops' := ZhC) (by kernel_rfl) (ZkI _ W2 _ (gz := gz) (oz := oz) (zl := zs.length) (cn := cn) (PB := w3.1.size) (L := ls.length) (k := k) (u := u) (LB := wr.1.size + 1) (bn := bn) (fc := fc) (fa := fa) (base := w3.1.size + 1) (by simp) (fun _ _ _ _ _ h => h) rfl rfl rfl rfl Dz Dg ?_ Dk Jk Gu Jt Gs.out (by omega) Jr (by omega) (fun w9 h => Ed.out _ (Eh w9 h).1 (Eh w9 h).2) (fun w9 h x => Ed.out _ ((ZA _ _ _ _ Jp).trans (Eh w9 h).1) ((ZA _ _ _ _ Jq).trans (Eh w9 h).2)) ?_)
    ·intro w' hw'
     rcases hw' with rfl | rfl
     ·exact Ed.out _ rfl rfl
     ·exact Ed.out _ (Df.out.block _ Jm) (Df.out.block _ Jn)
    intro a' g9 cap9 w9 Ju Jv Jw Ei Dv Gx
    rw [Z2T (a' := a') [84, 85, 86, 87, 88, 89, 90, 91, 92, 93, 94, 95, 96, 97, 98, 99] Ju (fun n hn => Jv n (by simp at hn; omega)) Jw]
    generalize Act.eval a' (.tmp 84) = u84
    generalize Act.eval a' (.tmp 85) = u85
    generalize Act.eval a' (.tmp 86) = u86
    generalize Act.eval a' (.tmp 87) = u87
    generalize Act.eval a' (.tmp 88) = u88
    generalize Act.eval a' (.tmp 89) = u89
    generalize Act.eval a' (.tmp 90) = u90
    generalize Act.eval a' (.tmp 91) = u91
    generalize Act.eval a' (.tmp 92) = u92
    generalize Act.eval a' (.tmp 93) = u93
    generalize Act.eval a' (.tmp 94) = u94
    generalize Act.eval a' (.tmp 95) = u95
    generalize Act.eval a' (.tmp 96) = u96
    generalize Act.eval a' (.tmp 97) = u97
    generalize Act.eval a' (.tmp 98) = u98
    generalize Act.eval a' (.tmp 99) = u99
    simp only [Z1K, Act.put, Kci, Kdh, Kcy]
    go_wp2_with fail
    go_roundw
    case rel =>
     have Dh : Below wr.1.size wr (W2.drew.alloc (.cells #[.int .i64 0, .int .i64 1, .int .i64 b1, .int .i64 p.grams, .int .i64 bk, .int .i64 b2, .int .i64 l.cents, .int .i64 rk] 42)) := Gt.out.trans (Df.out.mono Gt.out.size)
     have Dw := HF.out.below Dh
     have Ey : (W2.drew.alloc (.cells #[.int .i64 0, .int .i64 1, .int .i64 b1, .int .i64 p.grams, .int .i64 bk, .int .i64 b2, .int .i64 l.cents, .int .i64 rk] 42)).grownBy w9 (F u).ownBlock := by rw [<- Eg.out]; exact Dv
     have Jx : (F u).ownBlock = some g9 \/ (W2.drew.alloc (.cells #[.int .i64 0, .int .i64 1, .int .i64 b1, .int .i64 p.grams, .int .i64 bk, .int .i64 b2, .int .i64 l.cents, .int .i64 rk] 42)).1.size <= g9 := by
      rw [<- Eg.out]
      exact Gx.imp id (fun h => by rw [h, Z6]; exact Z1 _)
     have Jy : w9.ownsRow (w3.1.size + 1) 42 8 (.slice (some ⟨g9, 0, none⟩) ((Z0p zs (Z3p m bar B R ls zs) k u).length + 1) cap9) ((Z0p zs (Z3p m bar B R ls zs) k u).length + 1) ((Z0p zs (Z3p m bar B R ls zs) k u).flatMap lnC ++ lnC pk) := by
      rw [<- Gr.out, Ji.out]; exact Ei
     have Gy := Dw.put Dg pk (Ka4 _) Jy Ey Jx
     have hG : (fun i => if i = u then Z0p zs (Z3p m bar B R ls zs) k u ++ [pk] else Z0p zs (Z3p m bar B R ls zs) k i) = Z0p zs (Z3p m bar B R ls zs) (k + 1) := funext fun j => by
      by_cases e : j = u
      ·subst e
       rw [if_pos rfl, Gj.out]
      ·rw [if_neg e, Je.out j e]
     rw [hG, <- Gr.out] at Gy
     have Jz : ∀ b, (F u).ownBlock = some b -> w3.1.size + 1 <= b := fun b hb => ((HF.out.own u Dg).lt b hb).1
     have Kx := Ey.size
     have Ka := Dh.size
     refine ⟨k + 1, _, by omega, by go_num, ((Z01 Ds.out Ds.out.size Dh).grown Ey (by omega) (fun r e => by have := Jz r e; omega)).setCell (p := ⟨w3.1.size, u, none⟩) (Z1 _) _, ?_, Gy⟩
     simp [World.setCell]; omega
    case measure => simp [intOf]; omega
  ·obtain rfl : k = m.ps.length := by omega
   obtain ⟨w4, Gz⟩ : ∃ x, x = wr := ⟨wr, rfl⟩
   subst Gz
   have Ds := Z0 Di
   have HF := Z0 hF
   have Ez : Hid ((w4.alloc ZiA).1[w4.1.size]? = some ZiA) := Z02 w4 _
   have Fa : Hid (Below w4.1.size w4 (w4.alloc ZiA)) := (Z9 _ w4).alloc (Z1 _) _
   unfold ZiA at Ez Fa
   have Ky := Z0 Iv
   have Kb := Z0 Ip
   have d4 : decide ((m.ps.length : Int) < (m.ps.length : Int)) = false := Kad (by omega)
   clear Di hF Dj hk Em Eo En Ep Fp Fv Fw Es Et
   go_wp2_with fail
   go_loopw [103] (fun i wx => ∃ (j : Nat) (v : Value), j <= ls.length /\ i = .int .i64 j /\ Below w4.1.size w4 wx /\ w4.1.size + 1 <= wx.1.size /\ wx.1[w4.1.size]? = some (.cells #[v, .int .i64 0, .int .i64 0, .int .i64 0, .int .i64 0, .int .i64 0, .int .i64 0, .int .i64 0, .int .i64 0, .int .i64 0, .int .i64 0, .int .i64 0] 44) /\ wx.ownsRow (w4.1.size + 1) 42 8 v j (((List.range j).map (fun (j : Nat) => Z1r (j : Int) (Z0p zs (Z3p m bar B R ls zs) m.ps.length j))).flatMap lnC)) (fun i _ => ls.length - (intOf i).toNat)
   case atStart => exact ⟨0, _, ZE _, rfl, Fa.out, by simp, Ez.out, Kbb _ _ _ _⟩
   case round =>
    clear Ez Fa d4
    obtain ⟨j, v, hj, rfl, Dh, Ka, Fb, hO⟩ := hrel
    have Ej := Z0 Dh
    have Dx := Z0 Fb
    obtain ⟨va, vc, rfl⟩ := Z0F hO
    have HO := Z0 hO
    by_cases Fc : j < ls.length
    ·have Dw := HF.out.below Dh
     have Kc := Dw.row.cell Fc
     have Fd := OwnsLn.rd (Dw.own j Fc)
     generalize F j = fv at Kc Fd
     have Fe := Z0 Fd
     obtain ⟨S, hS⟩ : ∃ S, S = Z1r (j : Int) (Z0p zs (Z3p m bar B R ls zs) m.ps.length j) := ⟨_, rfl⟩
     have Ff : Hid (∀ W, Below wr.1.size wr W -> Calls Tryz.prog 67 #[.int .i64 (j : Int), fv] W fun e w' => e = .returned (.agg #[.int .i64 S.level, .int .i64 S.pieces, .int .i64 S.barred, .int .i64 S.grams, .int .i64 S.base, .int .i64 S.bar, .int .i64 S.saved, .int .i64 S.cents]) /\ Below W.1.size W w') := fun W hW => by
      have := ZgJ (m := 1000000) (j : Int) _ fv W (Fe.out.below hW) (Zaa Dr.out) (by omega) (Kaw (Z5r _ _ _ _) (by omega))
      rw [<- hS] at this
      exact this
     have Kd : Hid ((List.range (j + 1)).map (fun (j : Nat) => Z1r (j : Int) (Z0p zs (Z3p m bar B R ls zs) m.ps.length j)) = ((List.range j).map (fun (j : Nat) => Z1r (j : Int) (Z0p zs (Z3p m bar B R ls zs) m.ps.length j))) ++ [S]) := by rw [hS]; show _ = _; rw [Kaq, ZD]; rfl
     have Fg : ∀ W, Below wr.1.size wr W -> W.cell? ⟨w4.1.size, 0, none⟩ = some (.slice va j vc) /\ W.frozen? ⟨w4.1.size, 0, none⟩ = false := fun W hW => by
      have h1 := (hW.block w4.1.size (by omega)).trans Dx.out
      exact ⟨Kaa _ _ 0 _ _ _ h1, Z03 h1⟩
     have Ia := Z0 Fg
     obtain ⟨b3, f3⟩ := Fg wr (Z9 _ _)
     have Ib : Hid (∀ b, (Value.slice va j vc).ownBlock = some b -> w4.1.size + 1 <= b) := fun b hb => (HO.out.lt b hb).1
     have Ke : Hid (∀ w9 : World, (∀ b, b < w4.1.size + 1 -> w9.1[b]? = wr.1[b]?) -> w9.cell? ⟨w4.1.size, 0, none⟩ = some (.slice va j vc) /\ w9.frozen? ⟨w4.1.size, 0, none⟩ = false) := fun w9 h9 => by
      have h1 := (h9 w4.1.size (by omega)).trans Dx.out
      exact ⟨Kaa _ _ 0 _ _ _ h1, Z03 h1⟩
     obtain ⟨i0, hi⟩ := info_parts Tryz.infoLine
     have HI := Z0 hi
     have Kz : w3.1.size < wr.1.size := by omega
     clear Fg hi Dh Fb hO Dw Fd hS
     go_wp2_with fail
     go_region_law (first | (refine step_append_lies _ (by rfl) _ _ _ (by rfl) (w4.1.size + 1) 42 i0 (.agg #[.int .i64 0, .int .i64 0, .int .i64 0, .int .i64 0, .int .i64 0, .int .i64 0, .int .i64 0, .int .i64 0]) 8 64 Tryz.underlying40 HI.out.1 HI.out.2.1 HI.out.2.2.1 HI.out.2.2.2 rfl (by decide) (.slice va j vc) j _ (by rfl) ((Z09 HO.out Dc).alloc _) ⟨Lc.1.size, 0, none⟩ 1 1 (lnC S) (by rfl) (by rfl) (Z0f Lc _ _) (by simp [Value.oneCell', lnC]) (by omega) (by unfold maxLen; omega) (by omega) (by have := Dc.size; show _ <= (Lc.alloc _).1.size; rw [Z6]; omega) _ rfl ?_; intro g9 cap9 w9 Ei Dv Gx La; have Ic : Hid (∀ b, b < w4.1.size + 1 -> w9.1[b]? = wr.1[b]?) := (fun b hb => (Dv.block b (by have := Dc.size; show b < (Lc.alloc _).1.size; rw [Z6]; omega) (fun e => by have := Ib.out b e.symm; omega)).trans ((show (Lc.alloc _).1[b]? = _ from ZB _ _ _ (by have := Dc.size; omega)).trans (Dc.block b (by omega)))); obtain ⟨e9, f9⟩ := Ke.out w9 Ic.out) | (go_simp; go_at_call 67; refine (Ff.out _ (Z9 _ wr).drew).mono ?_; rintro e Lc ⟨rfl, Id⟩; have Dc : Below wr.1.size wr Lc := (Z9 _ wr).drew.trans Id; clear Id; obtain ⟨bC3, fC3⟩ := Ia.out Lc Dc; have Lb : (Lc.alloc (.cells #[.int .i64 S.level, .int .i64 S.pieces, .int .i64 S.barred, .int .i64 S.grams, .int .i64 S.base, .int .i64 S.bar, .int .i64 S.saved, .int .i64 S.cents] 42)).cell? ⟨w4.1.size, 0, none⟩ = some (.slice va j vc) := (Ia.out _ (Dc.alloc Dc.size _)).1))
     all_goals
      go_wp2_with fail
      go_roundw
      case rel =>
       have h9 : w9.1[w4.1.size]? = _ := (Ic.out _ (by omega)).trans Dx.out
       have Ie : Below w4.1.size w4 (Lc.alloc (.cells #[.int .i64 S.level, .int .i64 S.pieces, .int .i64 S.barred, .int .i64 S.grams, .int .i64 S.base, .int .i64 S.bar, .int .i64 S.saved, .int .i64 S.cents] 42)) := (Ej.out.trans (Dc.mono Ej.out.size)).alloc (Kaw Ej.out.size Dc.size) _
       refine ⟨j + 1, .slice (some ⟨g9, 0, none⟩) (j + 1) cap9, by omega, by go_num, ?_, ?_, ?_, ?_⟩
       ·exact (Ie.grown Dv Ie.size (fun r e => by have := Ib.out r e; omega)).setCell (p := ⟨w4.1.size, 0, none⟩) (Z1 _) _
       ·have h1 := Dv.size
        have h2 := Dc.size
        rw [Z6] at h1
        simp [World.setCell]; omega
       ·show (w9.1.modify w4.1.size _)[w4.1.size]? = _
        rw [Kap, if_pos rfl, h9]
        rfl
       ·rw [Kd.out, Kai, Kao, Kct, Ka1]
        exact Ei.kept (Z08 _ _ _) (.inr (by show some g9 ≠ some w4.1.size; have := (Ei.lt g9 rfl).1; intro e; injection e; omega))
      case measure => simp [intOf]; omega
    ·obtain rfl : j = ls.length := by omega
     obtain ⟨LL, Dp⟩ : ∃ LL, LL = (List.range ls.length).map (fun (j : Nat) => Z1r (j : Int) (Z0p zs (Z3p m bar B R ls zs) m.ps.length j)) := ⟨_, rfl⟩
     have hO' := HO.out
     rw [<- Dp] at hO'
     have Ec : LL.length = ls.length := by rw [Dp, Z7, Kay]
     have Fh : OwnsLn wr (w4.1.size + 1) (.slice va ls.length vc) LL := by show wr.ownsRow _ _ _ _ LL.length _; rw [Ec]; exact hO'
     have Fe := Z0 (OwnsLn.rd Fh)
     have Kf := Z0 Fh
     have Kg : Hid (∀ x ∈ LL, LnIn 2000000000 x) := fun x hx => by
      rw [Dp] at hx
      obtain ⟨i, _, rfl⟩ := Kae.1 hx
      exact (Z6e _ (Zaa Dr.out)).mono (by have := Z5r zs (Z3p m bar B R ls zs) m.ps.length i; have := Kb.out; omega)
     obtain ⟨T, hT⟩ : ∃ T, T = Z1r (ls.length : Int) LL := ⟨_, rfl⟩
     have Ff : Hid (∀ W, Below wr.1.size wr W -> Calls Tryz.prog 67 #[.int .i64 (ls.length : Int), .slice va ls.length vc] W fun e w' => e = .returned (.agg #[.int .i64 T.level, .int .i64 T.pieces, .int .i64 T.barred, .int .i64 T.grams, .int .i64 T.base, .int .i64 T.bar, .int .i64 T.saved, .int .i64 T.cents]) /\ Below W.1.size W w') := fun W hW => by
      have := ZgJ (m := 2000000000) (ls.length : Int) LL _ W (Fe.out.below hW) Kg.out (by omega) (by omega)
      rw [<- hT] at this
      exact this
     have Kh : Hid (∀ v, Z6p (Z5x zs (Z3p m bar B R ls zs) m.ps.length ls.length nb nt nc) v = .agg #[v, .int .i64 T.level, .int .i64 T.pieces, .int .i64 T.barred, .int .i64 T.grams, .int .i64 T.base, .int .i64 T.bar, .int .i64 T.saved, .int .i64 T.cents, .int .i64 nb, .int .i64 nt, .int .i64 nc]) := fun v => by rw [hT, Dp]; rfl
     have Db : Hid ((Z5x zs (Z3p m bar B R ls zs) m.ps.length ls.length nb nt nc).lines = LL) := Dp.symm
     have Ki : Hid (∀ w7, Below wr.1.size wr w7 -> w7.1[w.1.size + 1 + 1]? = w3.1[w.1.size + 1 + 1]? /\ w7.1[w.1.size + 1 + 1 + 1]? = w3.1[w.1.size + 1 + 1 + 1]? /\ w7.1[w4.1.size]? = wr.1[w4.1.size]? /\ Below w.1.size w w7) := fun w7 h7 => by
      have c1 := Z01 Ds.out Ds.out.size Ej.out
      have c2 := Z01 c1 c1.size h7
      exact ⟨c2.block _ (by omega), c2.block _ (by omega), h7.block _ (by omega), Z01 Do.out Do.out.size c2⟩
     have b0 := Kaa _ _ 0 _ _ _ Dx.out
     have d4 : decide ((ls.length : Int) < (ls.length : Int)) = false := Kad (by omega)
     clear Dh Fb hO hO' Fh Ec hT Dp Fc hj Dr HF
     go_wp2_with (go_at_call 67; refine (Ff.out _ (Z9 _ _)).mono ?_; rintro e w7 ⟨rfl, Dm⟩; obtain ⟨k1, k2, k3, Kj⟩ := Ki.out w7 Dm; have Ek := Z0 (Z09 Kf.out Dm); have kL := k1.trans It.out; have kM := k2.trans Iu.out; have kB := k3.trans Dx.out; have KL := Z0 kL; have KM := Z0 kM; have KB := Z0 kB; have s7 := Dm.size; have l0 := Kaa _ _ 0 _ _ _ kL; have l1 := Kaa _ _ 1 _ _ _ kL; have l2 := Kaa _ _ 2 _ _ _ kL; have f0 := Z03 (j := 0) kB; have f1 := Z03 (j := 1) kB; have f2 := Z03 (j := 2) kB; have f3 := Z03 (j := 3) kB; have f4 := Z03 (j := 4) kB; have f5 := Z03 (j := 5) kB; have f6 := Z03 (j := 6) kB; have f7 := Z03 (j := 7) kB; have f8 := Z03 (j := 8) kB; have f9 := Z03 (j := 9) kB; have f10 := Z03 (j := 10) kB; have f11 := Z03 (j := 11) kB; have e1 := Kaa _ _ 1 _ _ _ kB; have e2 := Kaa _ _ 2 _ _ _ kB; have e3 := Kaa _ _ 3 _ _ _ kB; have e4 := Kaa _ _ 4 _ _ _ kB; have e5 := Kaa _ _ 5 _ _ _ kB; have e6 := Kaa _ _ 6 _ _ _ kB; have e7 := Kaa _ _ 7 _ _ _ kB; have e8 := Kaa _ _ 8 _ _ _ kB; have e9 := Kaa _ _ 9 _ _ _ kB; have e10 := Kaa _ _ 10 _ _ _ kB; have e11 := Kaa _ _ 11 _ _ _ kB; clear Dm k1 k2 k3 kL kM kB)
     obtain ⟨W8, El⟩ : ∃ x, x = ((((((((w7.setCell ⟨w4.1.size, 1, none⟩ (.int .i64 T.level)).setCell ⟨w4.1.size, 2, none⟩ (.int .i64 T.pieces)).setCell ⟨w4.1.size, 3, none⟩ (.int .i64 T.barred)).setCell ⟨w4.1.size, 4, none⟩ (.int .i64 T.grams)).setCell ⟨w4.1.size, 5, none⟩ (.int .i64 T.base)).setCell ⟨w4.1.size, 6, none⟩ (.int .i64 T.bar)).setCell ⟨w4.1.size, 7, none⟩ (.int .i64 T.saved)).setCell ⟨w4.1.size, 8, none⟩ (.int .i64 T.cents)) := ⟨_, rfl⟩
     have G8 : w7.grownBy W8 (some w4.1.size) := by rw [El]; exact Zh6 _ _ _ _ _ _ _ _ _ _
     have kB8 : W8.1[w4.1.size]? = some (.cells #[.slice va ls.length vc, .int .i64 T.level, .int .i64 T.pieces, .int .i64 T.barred, .int .i64 T.grams, .int .i64 T.base, .int .i64 T.bar, .int .i64 T.saved, .int .i64 T.cents, .int .i64 0, .int .i64 0, .int .i64 0] 44 (0, 0)) := by rw [El]; exact ZkH KB.out
     rw [<- El]
     have kL8 := (G8.block (w.1.size + 1 + 1) (by omega) (by intro e; injection e; omega)).trans KL.out
     have kM8 := (G8.block (w.1.size + 1 + 1 + 1) (by omega) (by intro e; injection e; omega)).trans KM.out
     have s8 := G8.size
     have If := Z0 G8
     have KB8 := Z0 kB8
     have KM8 := Z0 kM8
     clear El l0 l1 l2 f0 f1 f2 f3 f4 f5 f6 f7 f8 f9 f10 f11 e1 e2 e3 e4 e5 e6 e7 e8 e9 e10 e11 KL KB KM G8
     have l0 := Kaa _ _ 0 _ _ _ kL8
     have l1 := Kaa _ _ 1 _ _ _ kL8
     have l2 := Kaa _ _ 2 _ _ _ kL8
     have f9 := Z03 (j := 9) kB8
     have f10 := Z03 (j := 10) kB8
     have f11 := Z03 (j := 11) kB8
     have e9 := Kaa _ _ 9 _ _ _ kB8
     have e10 := Kaa _ _ 10 _ _ _ kB8
     have e11 := Kaa _ _ 11 _ _ _ kB8
     have Ig : ∀ W', W8.grownBy W' (some w4.1.size) -> W'.cell? ⟨w.1.size + 1 + 1, 0, none⟩ = some (.slice ab nb cb) /\ W'.cell? ⟨w.1.size + 1 + 1, 1, none⟩ = some (.slice at' nt ct) /\ W'.cell? ⟨w.1.size + 1 + 1, 2, none⟩ = some (.slice ac nc cc) := fun W' h => by
      have h1 := (h.block (w.1.size + 1 + 1) (by omega) (by intro e; injection e; omega)).trans kL8
      exact ⟨Kaa _ _ 0 _ _ _ h1, Kaa _ _ 1 _ _ _ h1, Kaa _ _ 2 _ _ _ h1⟩
     have Kk := Z0 Ig
     have Kl : w4.1.size ≠ w.1.size + 1 + 1 := by omega
     have Ih : W8.grownBy W8.drew (some w4.1.size) := ⟨rfl, rfl, rfl, Z1 _, fun _ _ _ => rfl⟩
     have Km := Z0 Ih
     clear kB8 kL8 kM8 Ig Ih
     go_cut [] from 123 to 134 (fun wx => W8.grownBy wx (some w4.1.size) /\ wx.1[w4.1.size]? = some (.cells #[.slice va ls.length vc, .int .i64 T.level, .int .i64 T.pieces, .int .i64 T.barred, .int .i64 T.grams, .int .i64 T.base, .int .i64 T.bar, .int .i64 T.saved, .int .i64 T.cents, .int .i64 nb, .int .i64 nt, .int .i64 nc] 44 (0, 0)))
     case first =>
      go_region_held3 (fun w' => w'.cell? ⟨w.1.size + 1 + 1, 0, none⟩ = some (.slice ab nb cb) /\ w'.cell? ⟨w.1.size + 1 + 1, 1, none⟩ = some (.slice at' nt ct) /\ w'.cell? ⟨w.1.size + 1 + 1, 2, none⟩ = some (.slice ac nc cc))
       (first | exact Kk.out _ Km.out | (simp only [Z9o Kl, Zgb]; exact ⟨l0, l1, l2⟩))
       (fail)
      go_wp2_with fail
      go_meet
      exact ⟨ZiX _ _ _ _ _, ZkF KB8.out⟩
     case rest =>
      obtain ⟨G9, kB9⟩ := hcut
      have q4 := (G9.block (w.1.size + 1 + 1 + 1) (by omega) (by intro e; injection e; omega)).trans KM8.out
      have f0 := Z03 (j := 0) q4; have e0 := Kaa _ _ 0 _ _ _ q4; have f1 := Z03 (j := 1) q4; have e1 := Kaa _ _ 1 _ _ _ q4; have f2 := Z03 (j := 2) q4; have e2 := Kaa _ _ 2 _ _ _ q4; have f3 := Z03 (j := 3) q4; have e3 := Kaa _ _ 3 _ _ _ q4; have f4 := Z03 (j := 4) q4; have e4 := Kaa _ _ 4 _ _ _ q4; have f5 := Z03 (j := 5) q4; have e5 := Kaa _ _ 5 _ _ _ q4; have f6 := Z03 (j := 6) q4; have e6 := Kaa _ _ 6 _ _ _ q4; have f7 := Z03 (j := 7) q4; have e7 := Kaa _ _ 7 _ _ _ q4; have f8 := Z03 (j := 8) q4; have e8 := Kaa _ _ 8 _ _ _ q4; have f9 := Z03 (j := 9) q4; have e9 := Kaa _ _ 9 _ _ _ q4; have f10 := Z03 (j := 10) q4; have e10 := Kaa _ _ 10 _ _ _ q4; have f11 := Z03 (j := 11) q4; have e11 := Kaa _ _ 11 _ _ _ q4
      have d0 := Kaa _ _ 0 _ _ _ kB9; have d1 := Kaa _ _ 1 _ _ _ kB9; have d2 := Kaa _ _ 2 _ _ _ kB9; have d3 := Kaa _ _ 3 _ _ _ kB9; have d4 := Kaa _ _ 4 _ _ _ kB9; have d5 := Kaa _ _ 5 _ _ _ kB9; have d6 := Kaa _ _ 6 _ _ _ kB9; have d7 := Kaa _ _ 7 _ _ _ kB9; have d8 := Kaa _ _ 8 _ _ _ kB9; have d9 := Kaa _ _ 9 _ _ _ kB9; have d10 := Kaa _ _ 10 _ _ _ kB9; have d11 := Kaa _ _ 11 _ _ _ kB9
      have Q4 := Z0 q4
      have Ii := Z0 G9
      have s9 := G9.size
      clear q4 kB9 G9
      go_wp2_with fail
      refine bodyPost_ret (results_cell_tmp rfl _ _ (w.1.size + 1 + 1 + 1) _ rfl (run_loadVar_row _ _ _ _ _ _ _ (Zk7 Q4.out) Tryz.underlying44 rfl (by kernel_rfl))) rfl ?_
      have Dm := Kj
      have Kn := Dm.size
      have Gz : w.1.size + 1 + 1 + 1 < w4.1.size := by omega
      refine ⟨.slice va ls.length vc, ?_, ?_, ?_⟩
      ·rw [Kh.out]
       rfl
      ·exact Z6J ((Dm.grown If.out Kn (fun r e => by injection e; omega)).grown Ii.out (by omega) (fun r e => by injection e; omega)) (by omega)
      ·rw [Db.out]
       exact Z6h (((Ek.out.kept If.out (ZcE Ek.out.lt (by omega))).kept Ii.out (ZcE Ek.out.lt (by omega))).kept (Zcj _ _ _ _ _ _ _ _ _ _ _ _ _ _) (ZcE Ek.out.lt (by omega))) (by omega)
end Go.Proofs.YtlgajongmkhcnaaGreatDoor
