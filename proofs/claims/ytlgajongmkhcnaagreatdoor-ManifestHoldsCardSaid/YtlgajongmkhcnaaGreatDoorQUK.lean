import Derived.Test.YtlgajongmkhcnaaGreatDoorQUC
import Derived.Test.YtlgajongmkhcnaaGreatDoorQUE
import Derived.Deep.QuietTactic
import Derived.BigQuiet
import Derived.Laws.StructEq
import Derived.Test.YtlgajongmkhcnaaGreatDoorQUG
import Derived.Test.YtlgajongmkhcnaaGreatDoorQU1
import Derived.Test.YtlgajongmkhcnaaGreatDoorQU7
set_option maxRecDepth 100000
set_option linter.unusedVariables false
set_option linter.unusedSimpArgs false
set_option maxHeartbeats 32000000
namespace Go.Proofs.YtlgajongmkhcnaaGreatDoor
section
open Go.RowKit Go.Sort
def Z3p (m : Mai) (bar : Int) (B R : Nat -> Int) (ls : List Lev) (zs : List Int) (i : Nat) : Ln :=
 ⟨0, 1, if ZaT m i then 1 else 0, (m.ps.getD i ⟨0, 0, ⟨#[]⟩, 0, false⟩).grams, B i, if ZaT m i then bar else 0, Z5I ls (zs.getD i (-1)), R i⟩
def Z0p (zs : List Int) (pl : Nat -> Ln) (k j : Nat) : List Ln := ((List.range k).filter (fun i => decide (zs.getD i (-1) = (j : Int)))).map pl
theorem Zab (zs : List Int) (pl : Nat -> Ln) {k j : Nat} (h : zs.getD k (-1) = (j : Int)) : Z0p zs pl (k + 1) j = Z0p zs pl k j ++ [pl k] := by
 unfold Z0p
 rw [Kaq, Kb0, ZD, Kby (by simpa using h), Kbq]; rfl
theorem Za9 (zs : List Int) (pl : Nat -> Ln) {k j : Nat} (h : zs.getD k (-1) ≠ (j : Int)) : Z0p zs pl (k + 1) j = Z0p zs pl k j := by
 unfold Z0p
 rw [Kaq, Kb0, ZD, Kbz (by simpa using h), Kbq, Kbe, Ka1]
theorem Z5r (zs : List Int) (pl : Nat -> Ln) (k j : Nat) : (Z0p zs pl k j).length <= k := by
 unfold Z0p
 rw [Z7]
 have := Kbw (fun i => decide (zs.getD i (-1) = (j : Int))) (List.range k)
 rwa [Kay] at this
theorem Zaa {m : Int} {zs : List Int} {pl : Nat -> Ln} {k j : Nat} (h : ∀ i, i < k -> LnIn m (pl i)) : ∀ x ∈ Z0p zs pl k j, LnIn m x := by
 intro x hx
 unfold Z0p at hx
 obtain ⟨i, hi, rfl⟩ := Kae.1 hx
 exact h i (Ka8.1 (Kbh.1 hi).1)
theorem Tryz.infoSL : (Tryz.prog.info? 40).map (fun i => (i.zero, i.size, i.bytes)) = some (some (.slice none 0 0), 1, 24) := by kernel_rfl
theorem Tryz.infoLine : (Tryz.prog.info? 42).map (fun i => (i.zero, i.size, i.bytes)) = some (some (.agg #[.int .i64 0, .int .i64 0, .int .i64 0, .int .i64 0, .int .i64 0, .int .i64 0, .int .i64 0, .int .i64 0]), 8, 64) := by kernel_rfl
structure LnF (w : World) (base BB n : Nat) (G : Nat -> List Ln) (F : Nat -> Value) : Prop where
 row : w.rowIs BB 40 n F
 own : ∀ u, u < n -> w.ownsRow base 42 8 (F u) (G u).length ((G u).flatMap lnC)
 apart : ∀ u, u < n -> ∀ u', u' < n -> u ≠ u' -> ∀ b, (F u).ownBlock = some b -> (F u').ownBlock ≠ some b
theorem LnF.below {w w' : World} {base BB n : Nat} {G : Nat -> List Ln} {F : Nat -> Value} (h : LnF w base BB n G F) (hb : Below w.1.size w w') : LnF w' base BB n G F :=
 ⟨Z12 h.row hb h.row.lt, fun u hu => (h.own u hu).kept (Z0a hb) (by
  cases (F u).ownBlock with
  | none => exact .inl rfl
  | some b => exact .inr (by simp)), h.apart⟩
theorem Zbt {w : World} {base : Nat} {v : Value} {zs : List Value} {n : Nat} (h : w.ownsRow base 42 8 v n zs) {b : Nat} (hb : v.ownBlock = some b) : base <= b /\ b < w.1.size := h.lt b hb
theorem LnF.put {w w1 : World} {base BB n : Nat} {G : Nat -> List Ln} {F : Nat -> Value} (h : LnF w base BB n G F) {u : Nat} (hu : u < n) (x : Ln) (sB : BB < base) {gg cap : Nat}
 (rD : w1.ownsRow base 42 8 (.slice (some ⟨gg, 0, none⟩) ((G u).length + 1) cap) ((G u).length + 1) ((G u).flatMap lnC ++ lnC x)) (hg : w.grownBy w1 (F u).ownBlock) (qV : (F u).ownBlock = some gg \/ w.1.size <= gg) :
 LnF (w1.setCell ⟨BB, u, none⟩ (.slice (some ⟨gg, 0, none⟩) ((G u).length + 1) cap)) base BB n (fun i => if i = u then G u ++ [x] else G i) (fun i => if i = u then .slice (some ⟨gg, 0, none⟩) ((G u).length + 1) cap else F i) := by
 have rE : w1.rowIs BB 40 n F := h.row.of_block (hg.block BB h.row.lt (fun e => by
  have := (Zbt (h.own u hu) e.symm).1
  omega))
 have rF : ∀ i, i < n -> i ≠ u -> w1.ownsRow base 42 8 (F i) (G i).length ((G i).flatMap lnC) := fun i hi pB => (h.own i hi).kept hg (by
  cases hb : (F i).ownBlock with
  | none => exact .inl rfl
  | some b =>
   refine .inr (fun e => ?_)
   exact h.apart i hi u hu pB b hb e.symm)
 have qW : ∀ {v : Value} {k : Nat} {zs : List Value}, w1.ownsRow base 42 8 v k zs -> (w1.setCell ⟨BB, u, none⟩ (.slice (some ⟨gg, 0, none⟩) ((G u).length + 1) cap)).ownsRow base 42 8 v k zs := fun {v k zs} ho => ho.kept (Z08 _ _ _) (by
  cases hb : v.ownBlock with
  | none => exact .inl rfl
  | some b =>
   refine .inr (fun e => ?_)
   injection e with e
   have := (ho.lt b hb).1
   have : b = BB := e
   omega)
 refine ⟨rE.set u _, fun i hi => ?_, fun i hi j hj pQ b hb => ?_⟩
 ·try dsimp only
  by_cases e : i = u
  ·subst e
   rw [if_pos rfl, if_pos rfl]
   have := qW rD
   rw [ZC, Kai]
   exact this
  ·rw [if_neg e, if_neg e]
   exact qW (rF i hi e)
 ·try dsimp only at hb
  try dsimp only
  by_cases e : i = u
  ·subst e
   rw [if_pos rfl] at hb
   rw [if_neg (fun h => pQ h.symm)]
   intro hc
   have pU : gg = b := by injection hb
   subst pU
   rcases qV with h1 | h1
   ·exact h.apart i hi j hj pQ gg h1 hc
   ·have := (Zbt (h.own j hj) hc).2
    omega
  ·rw [if_neg e] at hb
   by_cases e2 : j = u
   ·subst e2
    rw [if_pos rfl]
    intro hc
    have pU : gg = b := by injection hc
    subst pU
    rcases qV with h1 | h1
    ·exact h.apart i hi j hj pQ gg hb h1
    ·have := (Zbt (h.own i hi) hb).2
     omega
   ·rw [if_neg e2]
    exact h.apart i hi j hj pQ b hb
theorem LnF.nil {w : World} {base BB n : Nat} (h : w.rowIs BB 40 n (fun _ => .slice none 0 0)) : LnF w base BB n (fun _ => []) (fun _ => .slice none 0 0) :=
 ⟨h, fun u _ => Kbb _ _ _ _, fun u _ u' _ _ b hb => by cases hb⟩
def Z5x (zs : List Int) (pl : Nat -> Ln) (n K : Nat) (b t c : Nat) : Man :=
 let lines := (List.range K).map (fun (j : Nat) => Z1r (j : Int) (Z0p zs pl n j))
 ⟨lines, Z1r K lines, b, t, c⟩
end
section
open Go.RowKit
theorem Zg9 (x y : Ln) (w : World) : (Op.equalIn 10000 42 (lnA x) (lnA y)).run Tryz.prog w = .ok (decide (x = y)) w := by
 have u3 := Tryz.underlying3
 have a3 := Tryz.isAgg3
 have z3 := Tryz.sizeOf3
 have hS : Tryz.prog.underlying 42 = some (.struct (Tryz.prog.fieldsOf 42)) := by kernel_rfl
 have hp : Tryz.prog.stoodInHeld 42 = false := by kernel_rfl
 unfold lnA
 rw [show (10000 : Nat) = 9999 + 1 from rfl, run_equalIn_agg w 9999 42 _ _ hS hp]
 simp only [Program.fieldsOf, Tryz.underlying42]
 go_simp
 obtain ⟨x1, x2, x3, x4, x5, x6, x7, x8⟩ := x
 obtain ⟨y1, y2, y3, y4, y5, y6, y7, y8⟩ := y
 simp only [Ln.mk.injEq]
 repeat' split
 all_goals simp_all
theorem ZcH (x y : Ln) (w : World) : (binOp .neq 42 (lnA x) (lnA y)).run Tryz.prog w = .ok (.bool (!decide (x = y))) w := by
 unfold lnA
 rw [run_neq_struct]
 have h := Zg9 x y w
 unfold lnA at h
 rw [h]; rfl
theorem Zd1 (x y : Ln) (w : World) : (binOp .eql 42 (lnA x) (lnA y)).run Tryz.prog w = .ok (.bool (decide (x = y))) w := by
 unfold lnA
 rw [run_eql_struct]
 have h := Zg9 x y w
 unfold lnA at h
 rw [h]; rfl
theorem Zg8 (l r : List Ln) (v u : Value) (w : World) (hv : RdLns w v l) (hu : RdLns w u r) (hl : l.length <= 100000) (hr : r.length <= 100000) :
 Calls Tryz.prog 38 #[v, u] w fun e w' => e = .returned (.bool (decide (l = r))) /\ ∃ n, w' = w.drewN n := by
 obtain ⟨a, ca, rfl, pI⟩ := hv
 obtain ⟨b, cb, rfl, pJ⟩ := hu
 have pV := Z0 pI
 have pW := Z0 pJ
 clear pI pJ
 by_cases pE : l.length = r.length
 ·have d1 : ((l.length : Int) != (r.length : Int)) = false := by rw [pE]; simp
  go_enter Tryz.func38, Tryz.ntmps38
  go_wp2
  go_loopw [13] (fun i wr => ∃ (k n : Nat), k <= l.length /\ i = .int .i64 k /\ wr = w.drewN n /\ Hid (l.take k = r.take k)) (fun i _ => l.length - (intOf i).toNat)
  case atStart => exact ⟨0, 0, ZE _, rfl, rfl, rfl⟩
  case round =>
   obtain ⟨k, n, hk, rfl, rfl, HT⟩ := hrel
   by_cases pK : k < l.length
   ·have pL : k < r.length := by omega
    obtain ⟨g, off, rfl, hg, hc⟩ := pV.out (by omega)
    obtain ⟨g', off', rfl, hg', hc'⟩ := pW.out (by omega)
    have h1 := hc k pK
    have h2 := hc' k pL
    have pF := Z8 pK
    have pG := Z8 pL
    have pB : l[k] ≠ r[k] -> l ≠ r := fun h e => h (by subst e; rfl)
    generalize l[k] = x at h1 pF pB
    generalize r[k] = y at h2 pG pB
    have pX := Z0 pF
    have pY := Z0 pG
    have pZ := Z0 pB
    have hq := ZcH x y
    unfold lnA at hq
    have c0 := h1 0 _ rfl
    have c1 := h1 1 _ rfl
    have c2 := h1 2 _ rfl
    have c3 := h1 3 _ rfl
    have c4 := h1 4 _ rfl
    have c5 := h1 5 _ rfl
    have c6 := h1 6 _ rfl
    have c7 := h1 7 _ rfl
    have e0 := h2 0 _ rfl
    have e1 := h2 1 _ rfl
    have e2 := h2 2 _ rfl
    have e3 := h2 3 _ rfl
    have e4 := h2 4 _ rfl
    have e5 := h2 5 _ rfl
    have e6 := h2 6 _ rfl
    have e7 := h2 7 _ rfl
    rw [Kdc] at c0 e0
    have d4 : decide ((k : Int) < (l.length : Int)) = true := Kac (by omega)
    have z1 : (0 : Int) <= (k : Int) := by omega
    have z2 : (k : Int) < (l.length : Int) := by omega
    have z3 : (k : Int) < (r.length : Int) := by omega
    clear hc hc' h1 h2 pF pG pB
    by_cases e : x = y
    ·have dq : (!decide (x = y)) = false := by simp [e]
     simp only [dq] at hq
     clear dq
     have HE := Z0 e
     clear e
     go_wp2_with fail
     go_quiet (fail)
     go_wp2_with fail
     go_roundw
     case rel => exact ⟨k + 1, _, by omega, by go_num, rfl, by show _ = _; rw [pX.out, pY.out, HT.out, HE.out]⟩
     case measure => simp [intOf]; omega
    ·have dq : (!decide (x = y)) = true := by simp [e]
     simp only [dq] at hq
     clear dq
     have HE := Z0 e
     clear e
     go_wp2_with fail
     go_quiet (fail)
     go_wp2_with fail
     go_ret
     have he := pZ.out HE.out
     exact ⟨by rw [Kad he]; rfl, _, by first | rfl | exact World.drewN_drewN _ _ _⟩
   ·obtain rfl : k = l.length := by omega
    have he : l = r := by have := HT.out; rw [Kat, pE, Kat] at this; exact this
    go_wp2_with fail
    go_ret
    exact ⟨by rw [Kac he]; rfl, _, rfl⟩
 ·have d1 : ((l.length : Int) != (r.length : Int)) = true := by simp; omega
  go_enter Tryz.func38, Tryz.ntmps38
  go_wp2
  go_ret
  have he : l ≠ r := fun e => pE (by rw [e])
  exact ⟨by rw [Kad he]; rfl, 0, rfl⟩
end
section
open Go.RowKit Go.Sort
abbrev Zci (w : World) (g : Nat) (b0 b1 b2 b3 b4 b5 b6 b7 b8 b9 b10 b11 : Value) : World := ((((((((((((w.setCell ⟨g, 0, none⟩ b0).setCell ⟨g, 1, none⟩ b1).setCell ⟨g, 2, none⟩ b2).setCell ⟨g, 3, none⟩ b3).setCell ⟨g, 4, none⟩ b4).setCell ⟨g, 5, none⟩ b5).setCell ⟨g, 6, none⟩ b6).setCell ⟨g, 7, none⟩ b7).setCell ⟨g, 8, none⟩ b8).setCell ⟨g, 9, none⟩ b9).setCell ⟨g, 10, none⟩ b10).setCell ⟨g, 11, none⟩ b11)
theorem Zk7 {w : World} {g : Nat} {a0 a1 a2 a3 a4 a5 a6 a7 a8 a9 a10 a11 b0 b1 b2 b3 b4 b5 b6 b7 b8 b9 b10 b11 : Value} {t : TypeId} {fr : Nat × Nat} (h : w.1[g]? = some (.cells #[a0, a1, a2, a3, a4, a5, a6, a7, a8, a9, a10, a11] t fr)) :
 (Zci w g b0 b1 b2 b3 b4 b5 b6 b7 b8 b9 b10 b11).1[g]? = some (.cells #[b0, b1, b2, b3, b4, b5, b6, b7, b8, b9, b10, b11] t fr) := by
 simp [Zci, World.setCell, Kap, h]
theorem Z6J {B : Nat} {w w' : World} {g : Nat} {b0 b1 b2 b3 b4 b5 b6 b7 b8 b9 b10 b11 : Value} (h : Below B w w') (hg : B <= g) : Below B w (Zci w' g b0 b1 b2 b3 b4 b5 b6 b7 b8 b9 b10 b11) :=
 ((((((((((((h.setCell (p := ⟨g, 0, none⟩) hg _).setCell (p := ⟨g, 1, none⟩) hg _).setCell (p := ⟨g, 2, none⟩) hg _).setCell (p := ⟨g, 3, none⟩) hg _).setCell (p := ⟨g, 4, none⟩) hg _).setCell (p := ⟨g, 5, none⟩) hg _).setCell (p := ⟨g, 6, none⟩) hg _).setCell (p := ⟨g, 7, none⟩) hg _).setCell (p := ⟨g, 8, none⟩) hg _).setCell (p := ⟨g, 9, none⟩) hg _).setCell (p := ⟨g, 10, none⟩) hg _).setCell (p := ⟨g, 11, none⟩) hg _)
theorem Zcj (w : World) (g : Nat) (b0 b1 b2 b3 b4 b5 b6 b7 b8 b9 b10 b11 : Value) : w.grownBy (Zci w g b0 b1 b2 b3 b4 b5 b6 b7 b8 b9 b10 b11) (some g) :=
 ((((((((((((Z08 w ⟨g, 0, none⟩ b0).trans (Z08 _ ⟨g, 1, none⟩ b1)).trans (Z08 _ ⟨g, 2, none⟩ b2)).trans (Z08 _ ⟨g, 3, none⟩ b3)).trans (Z08 _ ⟨g, 4, none⟩ b4)).trans (Z08 _ ⟨g, 5, none⟩ b5)).trans (Z08 _ ⟨g, 6, none⟩ b6)).trans (Z08 _ ⟨g, 7, none⟩ b7)).trans (Z08 _ ⟨g, 8, none⟩ b8)).trans (Z08 _ ⟨g, 9, none⟩ b9)).trans (Z08 _ ⟨g, 10, none⟩ b10)).trans (Z08 _ ⟨g, 11, none⟩ b11))
def ZiA : Obj := .cells #[.slice none 0 0, .int .i64 0, .int .i64 0, .int .i64 0, .int .i64 0, .int .i64 0, .int .i64 0, .int .i64 0, .int .i64 0, .int .i64 0, .int .i64 0, .int .i64 0] 44
theorem Z6r {w W : World} {A B C D : Obj} (h : W = (((w.alloc A).alloc B).alloc C).alloc D) : W.1[w.1.size]? = some A /\ W.1[w.1.size + 1]? = some B /\ W.1[w.1.size + 1 + 1]? = some C /\ W.1[w.1.size + 1 + 1 + 1]? = some D /\ W.1.size = w.1.size + 4 /\ Below w.1.size w W := by
 obtain ⟨a1, a2, a3, a4⟩ := Z25 (w := w) (A := A) (B := B) rfl
 obtain ⟨b1, b2, b3, b4⟩ := Z25 (w := (w.alloc A).alloc B) (A := C) (B := D) rfl
 rw [<- h] at b1 b2 b3 b4
 rw [a3] at b1 b2 b3
 exact ⟨(b4.block _ (by omega)).trans a1, (b4.block _ (by omega)).trans a2, b1, b2, by omega, a4.trans (b4.mono (by omega))⟩
theorem Zfo {w : World} {base : Nat} {v : Value} {l : List Ln} (h : OwnsLn w base v l) : ∃ a n c, v = .slice a n c := by
 rcases Joins.ownsRow_forms h with ⟨rfl, _⟩ | ⟨g, cap, rfl⟩
 ·exact ⟨_, _, _, rfl⟩
 ·exact ⟨_, _, _, rfl⟩
theorem ZcE {v : Value} {B n g : Nat} (h : ∀ k, v.ownBlock = some k -> B <= k /\ k < n) (hg : g < B) : v.ownBlock = none \/ v.ownBlock ≠ some g := by
 refine .inr (fun e => ?_)
 have := (h g e).1
 omega
theorem ZfF {M : Man} {m : Mai} {k : Pck} {vr vz vl vp vn : Value} {nb nt nc : Nat} (w : World) (qA : ∃ a n c, vr = .slice a n c) (qB : ∃ a n c, vz = .slice a n c) (qC : ∃ a n c, vl = .slice a n c) (qD : ∃ a n c, vp = .slice a n c) (qE : ∃ a n c, vn = .slice a n c)
 (qX : ∀ W, Below w.1.size w W -> Calls Tryz.prog 12 #[vl, Z2r m vp, vn, Z4J k] W fun e w' => ∃ ab cb at' ct ac cc, e = .returned (.tuple #[.agg #[.slice ab nb cb, .slice at' nt ct, .slice ac nc cc], .int .i64 0]) /\ Below W.1.size W w')
 (pM : ∀ W ab cb at' ct ac cc, Below w.1.size w W -> Calls Tryz.prog 28 #[.agg #[vr, vz], vl, Z2r m vp, vn, .agg #[.slice ab nb cb, .slice at' nt ct, .slice ac nc cc]] W fun e w' => ∃ v, e = .returned (.tuple #[Z6p M v, .int .i64 0]) /\ Below W.1.size W w' /\ OwnsLn w' W.1.size v M.lines) :
 Calls Tryz.prog 11 #[.agg #[vr, vz], vl, Z2r m vp, vn, Z4J k] w fun e w' => ∃ v, e = .returned (.tuple #[Z6p M v, .int .i64 0]) /\ Below w.1.size w w' /\ OwnsLn w' w.1.size v M.lines := by
 obtain ⟨ar, nr, cr, rfl⟩ := qA
 obtain ⟨az, nz, cz, rfl⟩ := qB
 obtain ⟨al, nl, cl, rfl⟩ := qC
 obtain ⟨ap, np, cp, rfl⟩ := qD
 obtain ⟨an, nn, cn, rfl⟩ := qE
 have rG := Z0 qX
 have pR := Z0 pM
 obtain ⟨t1, t2, t3, t4, t5, t6⟩ := Z6r (w := w) (A := .cells #[.slice ar nr cr, .slice az nz cz] 29) (B := .cells #[.int .u8 m.cls, .int .u8 m.ctr, .string m.origin, .slice ap np cp] 34) (C := .cells #[.int .i64 k.pieces, .int .i64 k.grams, .int .i64 k.bundles, .int .i64 k.trays] 37) (D := ZiA) rfl
 unfold ZiA at t1 t2 t3 t4 t5 t6
 obtain ⟨W0, pC⟩ : ∃ W0, W0 = ((((w.alloc (.cells #[.slice ar nr cr, .slice az nz cz] 29)).alloc (.cells #[.int .u8 m.cls, .int .u8 m.ctr, .string m.origin, .slice ap np cp] 34)).alloc (.cells #[.int .i64 k.pieces, .int .i64 k.grams, .int .i64 k.bundles, .int .i64 k.trays] 37)).alloc (.cells #[.slice none 0 0, .int .i64 0, .int .i64 0, .int .i64 0, .int .i64 0, .int .i64 0, .int .i64 0, .int .i64 0, .int .i64 0, .int .i64 0, .int .i64 0, .int .i64 0] 44)) := ⟨_, rfl⟩
 rw [<- pC] at t1 t2 t3 t4 t5 t6
 have y0 := Kaa _ _ 0 _ _ _ t2
 have y1 := Kaa _ _ 1 _ _ _ t2
 have y2 := Kaa _ _ 2 _ _ _ t2
 have y3 := Kaa _ _ 3 _ _ _ t2
 have z0 := Kaa _ _ 0 _ _ _ t3
 have z1 := Kaa _ _ 1 _ _ _ t3
 have z2 := Kaa _ _ 2 _ _ _ t3
 have z3 := Kaa _ _ 3 _ _ _ t3
 have qF := Z0 t1
 have qG := Z0 t2
 have pN := Z0 t4
 have qH := Z0 t6
 have pO := Z0 pC
 clear t1 t2 t3 t4 t6 pC qX y0 y1 y2 y3 z0 z1 z2 z3 pM
 unfold Z2r Z4J at *
 go_enter Tryz.func11, Tryz.ntmps11
 go_wp2_with fail
 rw [<- pO.out]
 refine (rG.out _ qH.out).mono ?_
 rintro e w1 ⟨ab, cb, at', ct, ac, cc, rfl, pA⟩
 obtain ⟨W2, pP⟩ : ∃ W2, W2 = w1.alloc (.cells #[.slice ab nb cb, .slice at' nt ct, .slice ac nc cc] 52) := ⟨_, rfl⟩
 have pH : Below W0.1.size W0 W2 := by rw [pP]; exact pA.alloc pA.size _
 have q5 : W2.1[w1.1.size]? = some (.cells #[.slice ab nb cb, .slice at' nt ct, .slice ac nc cc] 52) := by rw [pP]; exact Z02 w1 _
 have q1 := (pH.block w.1.size (by omega)).trans qF.out
 have q2 := (pH.block (w.1.size + 1) (by omega)).trans qG.out
 have q4 := (pH.block (w.1.size + 1 + 1 + 1) (by omega)).trans pN.out
 have rH := Z0 q4
 have qI := Z0 (Z01 qH.out qH.out.size pH)
 have rI := pA.size
 have rJ := pH.size
 have sC : W2.1.size = w1.1.size + 1 := by rw [pP]; simp
 have x0 := Kaa _ _ 0 _ _ _ q1
 have x1 := Kaa _ _ 1 _ _ _ q1
 have y0 := Kaa _ _ 0 _ _ _ q2
 have y1 := Kaa _ _ 1 _ _ _ q2
 have y2 := Kaa _ _ 2 _ _ _ q2
 have y3 := Kaa _ _ 3 _ _ _ q2
 have z0 := Kaa _ _ 0 _ _ _ q5
 have z1 := Kaa _ _ 1 _ _ _ q5
 have z2 := Kaa _ _ 2 _ _ _ q5
 have rK := Z0 pP
 clear pP pH q1 q2 q4 q5 pA
 go_upto_region 2 with fail
 rw [<- rK.out]
 go_wp2_with fail
 refine (pR.out _ _ _ _ _ _ _ qI.out).mono ?_
 rintro e w3 ⟨v, rfl, pD, ho⟩
 obtain ⟨av, nv, cv, rfl⟩ := Zfo ho
 have q4 := (pD.block (w.1.size + 1 + 1 + 1) (by omega)).trans rH.out
 have f0 := Z03 (j := 0) q4; have e0 := Kaa _ _ 0 _ _ _ q4; have f1 := Z03 (j := 1) q4; have e1 := Kaa _ _ 1 _ _ _ q4; have f2 := Z03 (j := 2) q4; have e2 := Kaa _ _ 2 _ _ _ q4; have f3 := Z03 (j := 3) q4; have e3 := Kaa _ _ 3 _ _ _ q4; have f4 := Z03 (j := 4) q4; have e4 := Kaa _ _ 4 _ _ _ q4; have f5 := Z03 (j := 5) q4; have e5 := Kaa _ _ 5 _ _ _ q4; have f6 := Z03 (j := 6) q4; have e6 := Kaa _ _ 6 _ _ _ q4; have f7 := Z03 (j := 7) q4; have e7 := Kaa _ _ 7 _ _ _ q4; have f8 := Z03 (j := 8) q4; have e8 := Kaa _ _ 8 _ _ _ q4; have f9 := Z03 (j := 9) q4; have e9 := Kaa _ _ 9 _ _ _ q4; have f10 := Z03 (j := 10) q4; have e10 := Kaa _ _ 10 _ _ _ q4; have f11 := Z03 (j := 11) q4; have e11 := Kaa _ _ 11 _ _ _ q4
 have rL := Z0 q4
 have rM := Z0 (Z01 qI.out qI.out.size pD)
 have HO := Z0 ho
 have rN := pD.size
 clear q4 pD x0 x1 y0 y1 y2 y3 z0 z1 z2 ho
 unfold Z6p
 go_wp2_with fail
 refine bodyPost_ret (results_cell_tmp rfl _ _ (w.1.size + 1 + 1 + 1) _ rfl (run_loadVar_row _ _ _ _ _ _ _ (Zk7 rL.out) Tryz.underlying44 rfl (by kernel_rfl))) rfl ?_
 exact ⟨_, rfl, Z6J rM.out (by omega), Z6h (HO.out.kept (Zcj _ _ _ _ _ _ _ _ _ _ _ _ _ _) (ZcE (HO.out.lt) (by omega))) (by omega)⟩
end
section
open Go.RowKit
theorem Z8Z (l r : List Ln) (v u : Value) (w : World) (hv : RdLns w v l) (hu : RdLns w u r) (hl : l.length <= 100000) (hr : r.length <= 100000) :
 Calls Tryz.prog 60 #[v, u] w fun e w' => e = .returned (.bool (decide (l = r))) /\ ∃ n, w' = w.drewN n := by
 obtain ⟨a, ca, rfl, pI⟩ := hv
 obtain ⟨b, cb, rfl, pJ⟩ := hu
 have pV := Z0 pI
 have pW := Z0 pJ
 clear pI pJ
 by_cases pE : l.length = r.length
 ·have d1 : ((l.length : Int) != (r.length : Int)) = false := by rw [pE]; simp
  go_enter Tryz.func60, Tryz.ntmps60
  go_wp2
  go_loopw [5] (fun i wr => ∃ (k n : Nat), k <= l.length /\ i = .int .i64 k /\ wr = w.drewN n /\ Hid (l.take k = r.take k)) (fun i _ => l.length - (intOf i).toNat)
  case atStart => exact ⟨0, 0, ZE _, rfl, rfl, rfl⟩
  case round =>
   obtain ⟨k, n, hk, rfl, rfl, HT⟩ := hrel
   by_cases pK : k < l.length
   ·have pL : k < r.length := by omega
    obtain ⟨g, off, rfl, hg, hc⟩ := pV.out (by omega)
    obtain ⟨g', off', rfl, hg', hc'⟩ := pW.out (by omega)
    have h1 := hc k pK
    have h2 := hc' k pL
    have pF := Z8 pK
    have pG := Z8 pL
    have pB : l[k] ≠ r[k] -> l ≠ r := fun h e => h (by subst e; rfl)
    generalize l[k] = x at h1 pF pB
    generalize r[k] = y at h2 pG pB
    have pX := Z0 pF
    have pY := Z0 pG
    have pZ := Z0 pB
    have hq := ZcH x y
    unfold lnA at hq
    have c0 := h1 0 _ rfl
    have c1 := h1 1 _ rfl
    have c2 := h1 2 _ rfl
    have c3 := h1 3 _ rfl
    have c4 := h1 4 _ rfl
    have c5 := h1 5 _ rfl
    have c6 := h1 6 _ rfl
    have c7 := h1 7 _ rfl
    have e0 := h2 0 _ rfl
    have e1 := h2 1 _ rfl
    have e2 := h2 2 _ rfl
    have e3 := h2 3 _ rfl
    have e4 := h2 4 _ rfl
    have e5 := h2 5 _ rfl
    have e6 := h2 6 _ rfl
    have e7 := h2 7 _ rfl
    rw [Kdc] at c0 e0
    have d4 : decide ((k : Int) < (l.length : Int)) = true := Kac (by omega)
    have z1 : (0 : Int) <= (k : Int) := by omega
    have z2 : (k : Int) < (l.length : Int) := by omega
    have z3 : (k : Int) < (r.length : Int) := by omega
    clear hc hc' h1 h2 pF pG pB
    by_cases e : x = y
    ·have dq : (!decide (x = y)) = false := by simp [e]
     simp only [dq] at hq
     clear dq
     have HE := Z0 e
     clear e
     go_wp2_with fail
     go_quiet (fail)
     go_wp2_with fail
     go_roundw
     case rel => exact ⟨k + 1, _, by omega, by go_num, rfl, by show _ = _; rw [pX.out, pY.out, HT.out, HE.out]⟩
     case measure => simp [intOf]; omega
    ·have dq : (!decide (x = y)) = true := by simp [e]
     simp only [dq] at hq
     clear dq
     have HE := Z0 e
     clear e
     go_wp2_with fail
     go_quiet (fail)
     go_wp2_with fail
     go_ret
     have he := pZ.out HE.out
     exact ⟨by rw [Kad he]; rfl, _, by first | rfl | exact World.drewN_drewN _ _ _⟩
   ·obtain rfl : k = l.length := by omega
    have he : l = r := by have := HT.out; rw [Kat, pE, Kat] at this; exact this
    go_wp2_with fail
    go_ret
    exact ⟨by rw [Kac he]; rfl, _, rfl⟩
 ·have d1 : ((l.length : Int) != (r.length : Int)) = true := by simp; omega
  go_enter Tryz.func60, Tryz.ntmps60
  go_wp2
  go_ret
  have he : l ≠ r := fun e => pE (by rw [e])
  exact ⟨by rw [Kad he]; rfl, 0, rfl⟩
theorem below_drewN {B : Nat} {w w' : World} {n : Nat} (h : Below B w w') : Below B w (w'.drewN n) := ⟨h.os, h.tape, h.output, h.size, h.block⟩
theorem Z9U (X : Man) (v u : Value) (w : World) (hv : RdLns w v X.lines) (hu : RdLns w u X.lines) (hl : X.lines.length <= 100000) :
 Calls Tryz.prog 23 #[Z6p X v, Z6p X u] w fun e w' => e = .returned (.bool true) /\ Below w.1.size w w' := by
 obtain ⟨t1, t2, t3, t4⟩ := Z25 (w := w) (A := .cells #[v, .int .i64 X.total.level, .int .i64 X.total.pieces, .int .i64 X.total.barred, .int .i64 X.total.grams, .int .i64 X.total.base, .int .i64 X.total.bar, .int .i64 X.total.saved, .int .i64 X.total.cents, .int .i64 X.buns, .int .i64 X.tras, .int .i64 X.cons] 44) (B := .cells #[u, .int .i64 X.total.level, .int .i64 X.total.pieces, .int .i64 X.total.barred, .int .i64 X.total.grams, .int .i64 X.total.base, .int .i64 X.total.bar, .int .i64 X.total.saved, .int .i64 X.total.cents, .int .i64 X.buns, .int .i64 X.tras, .int .i64 X.cons] 44) rfl
 obtain ⟨W0, pC⟩ : ∃ W0, W0 = (w.alloc (.cells #[v, .int .i64 X.total.level, .int .i64 X.total.pieces, .int .i64 X.total.barred, .int .i64 X.total.grams, .int .i64 X.total.base, .int .i64 X.total.bar, .int .i64 X.total.saved, .int .i64 X.total.cents, .int .i64 X.buns, .int .i64 X.tras, .int .i64 X.cons] 44)).alloc (.cells #[u, .int .i64 X.total.level, .int .i64 X.total.pieces, .int .i64 X.total.barred, .int .i64 X.total.grams, .int .i64 X.total.base, .int .i64 X.total.bar, .int .i64 X.total.saved, .int .i64 X.total.cents, .int .i64 X.buns, .int .i64 X.tras, .int .i64 X.cons] 44) := ⟨_, rfl⟩
 rw [<- pC] at t1 t2 t3 t4
 have hc := Z8Z X.lines X.lines v u W0 (hv.below t4) (hu.below t4) hl hl
 rw [Kac rfl] at hc
 have HC := Z0 hc
 have he := Zd1 X.total X.total
 rw [Kac rfl] at he
 unfold lnA at he
 obtain ⟨av, cv, rfl, _⟩ := hv
 obtain ⟨au, cu, rfl, _⟩ := hu
 have a0 := Kaa _ _ 0 _ _ _ t1
 have b0 := Kaa _ _ 0 _ _ _ t2
 have a1 := Kaa _ _ 1 _ _ _ t1
 have b1 := Kaa _ _ 1 _ _ _ t2
 have a2 := Kaa _ _ 2 _ _ _ t1
 have b2 := Kaa _ _ 2 _ _ _ t2
 have a3 := Kaa _ _ 3 _ _ _ t1
 have b3 := Kaa _ _ 3 _ _ _ t2
 have a4 := Kaa _ _ 4 _ _ _ t1
 have b4 := Kaa _ _ 4 _ _ _ t2
 have a5 := Kaa _ _ 5 _ _ _ t1
 have b5 := Kaa _ _ 5 _ _ _ t2
 have a6 := Kaa _ _ 6 _ _ _ t1
 have b6 := Kaa _ _ 6 _ _ _ t2
 have a7 := Kaa _ _ 7 _ _ _ t1
 have b7 := Kaa _ _ 7 _ _ _ t2
 have a8 := Kaa _ _ 8 _ _ _ t1
 have b8 := Kaa _ _ 8 _ _ _ t2
 have a9 := Kaa _ _ 9 _ _ _ t1
 have b9 := Kaa _ _ 9 _ _ _ t2
 have a10 := Kaa _ _ 10 _ _ _ t1
 have b10 := Kaa _ _ 10 _ _ _ t2
 have a11 := Kaa _ _ 11 _ _ _ t1
 have b11 := Kaa _ _ 11 _ _ _ t2
 have pO := Z0 pC
 have pN := Z0 t4
 clear hc pC t1 t2 t3 t4
 unfold Z6p
 go_enter Tryz.func23, Tryz.ntmps23
 go_wp2_with fail
 rw [<- pO.out]
 refine HC.out.mono ?_
 rintro e w1 ⟨rfl, n, rfl⟩
 go_wp2_with fail
 go_ret
 exact ⟨by simp, below_drewN pN.out⟩
end
section
open Go.RowKit Go.Sort
theorem ZcX {w W : World} {A B C D E : Obj} (h : W = ((((w.alloc A).alloc B).alloc C).alloc D).alloc E) : W.1[w.1.size]? = some A /\ W.1[w.1.size + 1]? = some B /\ W.1[w.1.size + 1 + 1]? = some C /\ W.1[w.1.size + 1 + 1 + 1]? = some D /\ W.1[w.1.size + 1 + 1 + 1 + 1]? = some E /\ W.1.size = w.1.size + 5 /\ Below w.1.size w W := by
 obtain ⟨a1, a2, a3, a4, a5, a6⟩ := Z6r (w := w) (A := A) (B := B) (C := C) (D := D) rfl
 have hb := (Z9 _ ((((w.alloc A).alloc B).alloc C).alloc D)).alloc (Z1 _) E
 have hn := Z02 ((((w.alloc A).alloc B).alloc C).alloc D) E
 rw [<- h] at hb hn
 rw [a5] at hn
 exact ⟨(hb.block _ (by omega)).trans a1, (hb.block _ (by omega)).trans a2, (hb.block _ (by omega)).trans a3, (hb.block _ (by omega)).trans a4, hn, by rw [h, Z6, a5], a6.trans (hb.mono (by omega))⟩
theorem Za1 {X : Man} {m : Mai} {k : Pck} {vr vz vl vp vn vb vt vc vx : Value} {nb nt nc : Nat} {M : Man} {b : Bool} (w : World) (qA : ∃ a n c, vr = .slice a n c) (qB : ∃ a n c, vz = .slice a n c) (qC : ∃ a n c, vl = .slice a n c) (qD : ∃ a n c, vp = .slice a n c) (qE : ∃ a n c, vn = .slice a n c) (rO : ∃ a c, vb = .slice a nb c) (rP : ∃ a c, vt = .slice a nt c) (rQ : ∃ a c, vc = .slice a nc c) (hx : RdLns w vx X.lines) (qY : M.lines.length <= 100000) (qZ : X.lines.length <= 100000)
 (rA : ∀ W, Below w.1.size w W -> Calls Tryz.prog 37 #[vl, Z2r m vp, vn, Z4J k, .agg #[vb, vt, vc]] W fun e w' => e = .returned (.tuple #[.bool b, .int .i64 0]) /\ Below W.1.size W w')
 (pM : ∀ W, Below w.1.size w W -> Calls Tryz.prog 28 #[.agg #[vr, vz], vl, Z2r m vp, vn, .agg #[vb, vt, vc]] W fun e w' => ∃ v, e = .returned (.tuple #[Z6p M v, .int .i64 0]) /\ Below W.1.size W w' /\ OwnsLn w' W.1.size v M.lines) :
 Calls Tryz.prog 14 #[.agg #[vr, vz], vl, Z2r m vp, vn, Z4J k, .agg #[vb, vt, vc], Z6p X vx] w fun e w' => e = .returned (.tuple #[.bool (b && (decide (M.total = X.total) && decide (M.lines = X.lines)) && (decide (M.buns = X.buns) && decide (M.tras = X.tras) && decide (M.cons = X.cons))), .int .i64 0]) /\ Below w.1.size w w' := by
 have pR := Z0 pM
 obtain ⟨ar, nr, cr, rfl⟩ := qA
 obtain ⟨az, nz, cz, rfl⟩ := qB
 obtain ⟨al, nl, cl, rfl⟩ := qC
 obtain ⟨ap, np, cp, rfl⟩ := qD
 obtain ⟨an, nn, cn, rfl⟩ := qE
 obtain ⟨ab, cb, rfl⟩ := rO
 obtain ⟨at', ct, rfl⟩ := rP
 obtain ⟨ac, cc, rfl⟩ := rQ
 have HX := Z0 hx
 obtain ⟨ax, cx, rfl, _⟩ := hx
 have rB := Z0 rA
 obtain ⟨W0, pC⟩ : ∃ W0, W0 = (((((w.alloc (.cells #[.slice ar nr cr, .slice az nz cz] 29)).alloc (.cells #[.int .u8 m.cls, .int .u8 m.ctr, .string m.origin, .slice ap np cp] 34)).alloc (.cells #[.int .i64 k.pieces, .int .i64 k.grams, .int .i64 k.bundles, .int .i64 k.trays] 37)).alloc (.cells #[.slice ab nb cb, .slice at' nt ct, .slice ac nc cc] 52)).alloc (.cells #[.slice ax X.lines.length cx, .int .i64 X.total.level, .int .i64 X.total.pieces, .int .i64 X.total.barred, .int .i64 X.total.grams, .int .i64 X.total.base, .int .i64 X.total.bar, .int .i64 X.total.saved, .int .i64 X.total.cents, .int .i64 X.buns, .int .i64 X.tras, .int .i64 X.cons] 44)) := ⟨_, rfl⟩
 obtain ⟨t1, t2, t3, t4, t5, t6, t7⟩ := ZcX pC
 have qF := Z0 t1
 have qG := Z0 t2
 have pN := Z0 t4
 have rR := Z0 t5
 have qJ := Z0 t7
 have pO := Z0 pC
 clear t1 t2 t3 t4 t5 t7 pC rA pM
 unfold Z6p
 unfold Z2r Z4J at *
 go_enter Tryz.func14, Tryz.ntmps14
 go_wp2_with fail
 rw [<- pO.out]
 refine (rB.out _ qJ.out).mono ?_
 rintro e w1 ⟨rfl, pA⟩
 have q1 := (pA.block w.1.size (by omega)).trans qF.out
 have q2 := (pA.block (w.1.size + 1) (by omega)).trans qG.out
 have q4 := (pA.block (w.1.size + 1 + 1 + 1) (by omega)).trans pN.out
 have q5 := (pA.block (w.1.size + 1 + 1 + 1 + 1) (by omega)).trans rR.out
 have qK := Z0 (Z01 qJ.out qJ.out.size pA)
 have rI := pA.size
 have Q5 := Z0 q5
 have x0 := Kaa _ _ 0 _ _ _ q1
 have x1 := Kaa _ _ 1 _ _ _ q1
 have y0 := Kaa _ _ 0 _ _ _ q2
 have y1 := Kaa _ _ 1 _ _ _ q2
 have y2 := Kaa _ _ 2 _ _ _ q2
 have y3 := Kaa _ _ 3 _ _ _ q2
 have z0 := Kaa _ _ 0 _ _ _ q4
 have z1 := Kaa _ _ 1 _ _ _ q4
 have z2 := Kaa _ _ 2 _ _ _ q4
 clear pA q1 q2 q4 q5
 go_wp2_with fail
 refine (pR.out _ qK.out).mono ?_
 rintro e w2 ⟨v, rfl, pD, ho⟩
 have qL := OwnsLn.rd ho
 obtain ⟨av, cv, rfl, _⟩ := id qL
 obtain ⟨W3, pS⟩ : ∃ W3, W3 = w2.alloc (.cells #[.slice av M.lines.length cv, .int .i64 M.total.level, .int .i64 M.total.pieces, .int .i64 M.total.barred, .int .i64 M.total.grams, .int .i64 M.total.base, .int .i64 M.total.bar, .int .i64 M.total.saved, .int .i64 M.total.cents, .int .i64 M.buns, .int .i64 M.tras, .int .i64 M.cons] 44) := ⟨_, rfl⟩
 have pT : Below w2.1.size w2 W3 := by rw [pS]; exact (Z9 _ w2).alloc (Z1 _) _
 have q6 : W3.1[w2.1.size]? = some (.cells #[.slice av M.lines.length cv, .int .i64 M.total.level, .int .i64 M.total.pieces, .int .i64 M.total.barred, .int .i64 M.total.grams, .int .i64 M.total.base, .int .i64 M.total.bar, .int .i64 M.total.saved, .int .i64 M.total.cents, .int .i64 M.buns, .int .i64 M.tras, .int .i64 M.cons] 44) := by rw [pS]; exact Z02 w2 _
 have qM := Z01 pD pD.size pT
 have q5 := (qM.block (w.1.size + 1 + 1 + 1 + 1) (by omega)).trans Q5.out
 have qN := Z0 (Z01 qK.out qK.out.size qM)
 have qO := Zg8 M.lines X.lines (.slice av M.lines.length cv) (.slice ax X.lines.length cx) W3 (qL.below pT) (HX.out.below qN.out) qY qZ
 have hq := Zd1 M.total X.total
 unfold lnA at hq
 have rJ := pD.size
 have rN := pT.size
 have g0 := Kaa _ _ 0 _ _ _ q5
 have h0 := Kaa _ _ 0 _ _ _ q6
 have g1 := Kaa _ _ 1 _ _ _ q5
 have h1 := Kaa _ _ 1 _ _ _ q6
 have g2 := Kaa _ _ 2 _ _ _ q5
 have h2 := Kaa _ _ 2 _ _ _ q6
 have g3 := Kaa _ _ 3 _ _ _ q5
 have h3 := Kaa _ _ 3 _ _ _ q6
 have g4 := Kaa _ _ 4 _ _ _ q5
 have h4 := Kaa _ _ 4 _ _ _ q6
 have g5 := Kaa _ _ 5 _ _ _ q5
 have h5 := Kaa _ _ 5 _ _ _ q6
 have g6 := Kaa _ _ 6 _ _ _ q5
 have h6 := Kaa _ _ 6 _ _ _ q6
 have g7 := Kaa _ _ 7 _ _ _ q5
 have h7 := Kaa _ _ 7 _ _ _ q6
 have g8 := Kaa _ _ 8 _ _ _ q5
 have h8 := Kaa _ _ 8 _ _ _ q6
 have g9 := Kaa _ _ 9 _ _ _ q5
 have h9 := Kaa _ _ 9 _ _ _ q6
 have g10 := Kaa _ _ 10 _ _ _ q5
 have sD := Kaa _ _ 10 _ _ _ q6
 have g11 := Kaa _ _ 11 _ _ _ q5
 have sE := Kaa _ _ 11 _ _ _ q6
 obtain ⟨bt, qP⟩ : ∃ x, x = decide (M.total = X.total) := ⟨_, rfl⟩
 obtain ⟨bl, qQ⟩ : ∃ x, x = decide (M.lines = X.lines) := ⟨_, rfl⟩
 obtain ⟨e1, qR⟩ : ∃ x, x = decide (M.buns = X.buns) := ⟨_, rfl⟩
 obtain ⟨e2, qS⟩ : ∃ x, x = decide (M.tras = X.tras) := ⟨_, rfl⟩
 obtain ⟨e3, qT⟩ : ∃ x, x = decide (M.cons = X.cons) := ⟨_, rfl⟩
 rw [<- qP] at hq
 rw [<- qQ] at qO
 have k1 : (M.buns == X.buns) = e1 := by rw [qR]; rfl
 have k2 : (M.tras == X.tras) = e2 := by rw [qS]; rfl
 have k3 : (M.cons == X.cons) = e3 := by rw [qT]; rfl
 have rS := Z0 qP
 have rT := Z0 qQ
 have rU := Z0 qR
 have rV := Z0 qS
 have rW := Z0 qT
 have rX := Z0 qO
 have rY := Z0 pS
 unfold Z6p
 go_upto_region 5 with fail
 rw [<- rY.out]
 clear qP qQ qR qS qT
 clear qO pS pD pT qM q5 q6 ho qL x0 x1 y0 y1 y2 y3 z0 z1 z2 pR rB qY qZ
 cases b
 case' false => cases bt
 case' true => cases bt
 case' true.true => cases bl
 all_goals
  cases e1
  case' true => cases e2
  all_goals
   go_wp2_with (go_at_call 38; refine rX.out.mono ?_; rintro e w4 ⟨rfl, n4, rfl⟩)
   go_ret2
   rw [<- rS.out, <- rT.out, <- rU.out, <- rV.out, <- rW.out]
   first | exact ⟨by simp, qN.out⟩ | exact ⟨by simp, below_drewN qN.out⟩
end
section
open Go.RowKit
theorem Z9O {steps : List Stp} {g : Int} (h0 : 0 < steps.length) (h : g <= steps[0].grams) : stepOf steps g = 0 := ZiE (q := 0) h0 (by simpa using h) (fun i hi h => absurd h (Ka2 _))
theorem Zbg (ps : List UInt8) (n c : Nat) : (Z1i ps n c).steps.length = Z4u n := by simp [Z1i]
theorem Zbj (ps : List UInt8) (n c : Nat) {z g : Int} (hg : g <= 20) : Z4B (Z1i ps n c) z g = (Z63 (Z3v ps (Z1x n) c 0) z, 0) := by
 have hs := Z6F n
 have hl := Zbg ps n c
 have h0 : (Z1i ps n c).steps[0]'(by omega) = Z3v ps (Z1x n) c 0 := by simp [Z1i]
 have he := Z9O (steps := (Z1i ps n c).steps) (g := g) (by omega) (by rw [h0]; show g <= ((20 + 30 * 0 : Nat) : Int); omega)
 unfold Z4B
 rw [he, if_neg (by omega)]
 have e0 : (Z1i ps n c).steps.getD (0 : Int).toNat ⟨0, []⟩ = Z3v ps (Z1x n) c 0 := by
  rw [<- h0, Z2, Z3 (show (0 : Int).toNat < _ by simp; omega)]; rfl
 rw [e0]
theorem ZdB (ps : List UInt8) (v : Value) (X i : Nat) (w : World) (hv : RdBytes w v ps) (hX : w.cell? ⟨X, 0, none⟩ = some v) (hi : i <= 100000) (hl : ps.length <= maxLen) :
 Calls Tryz.prog 24 #[.int .i64 (i : Nat), .pointer (some ⟨X, 0, none⟩)] w fun e w' => e = .returned (.int .i64 (Z1Y ps i : Nat)) /\ ∃ n, w' = w.drewN n := by
 unfold maxLen at hl
 obtain ⟨a, ca, rfl, hc⟩ := hv
 by_cases h0 : ps.length = 0
 ·have d0 : ((ps.length : Int) == 0) = true := by rw [h0]; rfl
  have hp : Z1Y ps i = 300 := by unfold Z1Y; rw [if_pos h0]
  have HP := Z0 hp
  clear hp h0 hc
  go_enter Tryz.func24, Tryz.ntmps24
  go_wp2
  go_ret
  exact ⟨by rw [HP.out]; rfl, 0, rfl⟩
 ·have d0 : ((ps.length : Int) == 0) = false := by simp; exact fun e => h0 (by rw [e]; rfl)
  obtain ⟨g, off, rfl, hg, rC⟩ := hc (by omega)
  obtain ⟨j, hj⟩ : ∃ j, j = i % ps.length := ⟨_, rfl⟩
  have qU : j < ps.length := by rw [hj]; exact Kcj _ (by omega)
  have c1 := rC j qU
  have hp : Z1Y ps i = 300 + ps[j].toNat := by
   unfold Z1Y
   rw [if_neg h0, <- hj, Z2, Z3 qU]; rfl
  have hb := ps[j].toNat_lt
  generalize ps[j].toNat = b at c1 hp hb
  have HP := Z0 hp
  have hm : ((i : Nat) : Int) % (ps.length : Int) = (j : Int) := by rw [hj]; simp
  have sF : (0 : Int) < (ps.length : Int) := by omega
  have z1 : (0 : Int) <= (j : Int) := by omega
  have z2 : (j : Int) < (ps.length : Int) := by omega
  have z3 : (0 : Int) <= (b : Int) := by omega
  have z4 : (b : Int) <= 255 := by omega
  clear hp rC hc h0 hj qU
  go_enter Tryz.func24, Tryz.ntmps24
  go_wp2
  go_quiet (fail)
  go_wp2
  go_ret
  refine ⟨?_, _, by first | rfl | exact (World.drewN_zero _).symm⟩
  rw [HP.out]
  rfl
end
section
open Go.RowKit Go.Sort
def exT : Tar := ⟨[⟨1, [⟨20, [100, 150]⟩, ⟨50, [120, 200]⟩], 10⟩], [⟨⟨#[]⟩, ⟨#[]⟩, 2⟩, ⟨⟨#[49]⟩, ⟨#[49]⟩, 1⟩]⟩
theorem Z38 {W : World} {g : Nat} {zs : List Int} (h : W.1[g]? = some (.cells (zs.map (Value.int .i64)).toArray 3)) : RdInts W (.slice (some ⟨g, 0, none⟩) zs.length zs.length) zs :=
 ⟨_, _, rfl, fun _ => ⟨g, 0, rfl, (Z5.1 h).1, fun i hi => by
  rw [Ka0, Kaa _ _ i _ _ _ h]
  simp [hi]⟩⟩
theorem Zg4 {W : World} {g : Nat} (h1 : W.1[g + 1]? = some (.cells #[.int .i64 100, .int .i64 150] 3)) (h2 : W.1[g + 1 + 1]? = some (.cells #[.int .i64 120, .int .i64 200] 3))
 (h3 : W.1[g + 1 + 1 + 1]? = some (.cells #[.int .i64 20, .slice (some ⟨g + 1, 0, none⟩) 2 2, .int .i64 50, .slice (some ⟨g + 1 + 1, 0, none⟩) 2 2] 95))
 (h4 : W.1[g + 1 + 1 + 1 + 1]? = some (.cells #[.int .u8 1, .slice (some ⟨g + 1 + 1 + 1, 0, none⟩) 2 2, .int .i64 10] 60))
 (h5 : W.1[g + 1 + 1 + 1 + 1 + 1]? = some (.cells #[.string ⟨#[]⟩, .string ⟨#[]⟩, .int .i64 2, .string ⟨#[49]⟩, .string ⟨#[49]⟩, .int .i64 1] 93)) :
 RdTar W (.slice (some ⟨g + 1 + 1 + 1 + 1, 0, none⟩) 1 1) (.slice (some ⟨g + 1 + 1 + 1 + 1 + 1, 0, none⟩) 2 2) exT := by
 have l3 := (Z5.1 h3).1
 have l4 := (Z5.1 h4).1
 have l5 := (Z5.1 h5).1
 have i1 : RdInts W (.slice (some ⟨g + 1, 0, none⟩) 2 2) [100, 150] := Z38 (zs := [100, 150]) h1
 have i2 : RdInts W (.slice (some ⟨g + 1 + 1, 0, none⟩) 2 2) [120, 200] := Z38 (zs := [120, 200]) h2
 refine ⟨⟨_, _, rfl, fun _ => ⟨_, 0, rfl, l4, fun i hi => ?_⟩⟩, ⟨_, _, rfl, fun _ => ⟨_, 0, rfl, l5, fun i hi => ?_⟩⟩⟩
 ·have : i = 0 := by have h : i < 1 := hi; omega
  subst this
  refine ⟨.slice (some ⟨g + 1 + 1 + 1, 0, none⟩) 2 2, ⟨_, _, rfl, fun _ => ⟨_, 0, rfl, l3, fun j hj => ?_⟩⟩, Kaa _ _ 0 _ _ _ h4, Kaa _ _ 1 _ _ _ h4, Kaa _ _ 2 _ _ _ h4⟩
  have rZ : j < 2 := hj
  match j, rZ with
  | 0, _ => exact ⟨_, i1, fun q u hq => by
   rw [Kaa _ _ _ _ _ _ h3]
   match q, hq with
   | 0, hq => exact hq
   | 1, hq => exact hq
   | q + 2, hq => simp [Z8V] at hq⟩
  | 1, _ => exact ⟨_, i2, fun q u hq => by
   rw [Kaa _ _ _ _ _ _ h3]
   match q, hq with
   | 0, hq => exact hq
   | 1, hq => exact hq
   | q + 2, hq => simp [Z8V] at hq⟩
 ·have sA : i < 2 := hi
  match i, sA with
  | 0, _ => exact ⟨Kaa _ _ 0 _ _ _ h5, Kaa _ _ 1 _ _ _ h5, Kaa _ _ 2 _ _ _ h5⟩
  | 1, _ => exact ⟨Kaa _ _ 3 _ _ _ h5, Kaa _ _ 4 _ _ _ h5, Kaa _ _ 5 _ _ _ h5⟩
theorem ZiU {w W : World} {A B C D E F : Obj} (h : W = (((((w.alloc A).alloc B).alloc C).alloc D).alloc E).alloc F) : W.1[w.1.size]? = some A /\ W.1[w.1.size + 1]? = some B /\ W.1[w.1.size + 1 + 1]? = some C /\ W.1[w.1.size + 1 + 1 + 1]? = some D /\ W.1[w.1.size + 1 + 1 + 1 + 1]? = some E /\ W.1[w.1.size + 1 + 1 + 1 + 1 + 1]? = some F /\ W.1.size = w.1.size + 6 /\ Below w.1.size w W := by
 obtain ⟨a1, a2, a3, a4, a5, a6, a7⟩ := ZcX (w := w) (A := A) (B := B) (C := C) (D := D) (E := E) rfl
 have hb := (Z9 _ (((((w.alloc A).alloc B).alloc C).alloc D).alloc E)).alloc (Z1 _) F
 have hn := Z02 (((((w.alloc A).alloc B).alloc C).alloc D).alloc E) F
 rw [<- h] at hb hn
 rw [a6] at hn
 exact ⟨(hb.block _ (by omega)).trans a1, (hb.block _ (by omega)).trans a2, (hb.block _ (by omega)).trans a3, (hb.block _ (by omega)).trans a4, (hb.block _ (by omega)).trans a5, hn, by rw [h, Z6, a6], a7.trans (hb.mono (by omega))⟩
theorem Z9q (w : World) : Calls Tryz.prog 22 #[] w fun e w' => ∃ vr vz, e = .returned (.agg #[vr, vz]) /\ Below w.1.size w w' /\ RdTar w' vr vz exT := by
 go_enter Tryz.func22, Tryz.ntmps22
 go_wp2_with fail
 obtain ⟨t0, t1, t2, t3, t4, t5, t6, t7⟩ := ZiU (w := w) (A := .cells #[.slice (some ⟨w.1.size + 1 + 1 + 1 + 1, 0, none⟩) 1 1, .slice (some ⟨w.1.size + 1 + 1 + 1 + 1 + 1, 0, none⟩) 2 2] 29) (B := .cells #[.int .i64 100, .int .i64 150] 3) (C := .cells #[.int .i64 120, .int .i64 200] 3)
  (D := .cells #[.int .i64 20, .slice (some ⟨w.1.size + 1, 0, none⟩) 2 2, .int .i64 50, .slice (some ⟨w.1.size + 1 + 1, 0, none⟩) 2 2] 95) (E := .cells #[.int .u8 1, .slice (some ⟨w.1.size + 1 + 1 + 1, 0, none⟩) 2 2, .int .i64 10] 60)
  (F := .cells #[.string ⟨#[]⟩, .string ⟨#[]⟩, .int .i64 2, .string ⟨#[49]⟩, .string ⟨#[49]⟩, .int .i64 1] 93) rfl
 refine bodyPost_ret (results_cell_row rfl _ _ w.1.size 29 _ (0, 0) _ rfl t0 Tryz.underlying29 rfl (by kernel_rfl)) rfl ?_
 exact ⟨_, _, rfl, t7, Zg4 t1 t2 t3 t4 t5⟩
end
end Go.Proofs.YtlgajongmkhcnaaGreatDoor
