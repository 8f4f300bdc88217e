import Derived.Test.YtlgajongmkhcnaaGreatDoorQU8
import Derived.Lib.QuietBelow
import Derived.StillTailTactics
import Derived.Deep.AppendLies
import Derived.Deep.RegionLaw
import Derived.BigQuiet
import Derived.BigRegion
set_option maxRecDepth 100000
set_option linter.unusedVariables false
set_option linter.unusedSimpArgs false
set_option maxHeartbeats 32000000
namespace Go.Proofs.YtlgajongmkhcnaaGreatDoor
open Go.RowKit Go.Sort
theorem Z5a {w : World} {a : Addr} {v : Value} (h : w.cell? a = some v) : ∀ p : Regrown, (grow (redrawn w p.d) p.os).cell? a = some v := fun p => cell_regrown h p.d p.os
theorem Zd8 (w : World) (p : Regrown) : Below w.1.size w (grow (redrawn w p.d) p.os) := below_regrown w p.d p.os
def Z7v (lvl : Int) (nm : ByteArray) (u : Value) (gr : Int) (k : Pck) : Obj := .cells #[.int .i64 lvl, .string nm, u, .int .i64 gr, .int .i64 k.pieces, .int .i64 k.grams, .int .i64 k.bundles, .int .i64 k.trays] 162 (0, 0)
def Zky (p : Pce) : Value := .agg #[.int .i64 p.id, .int .i64 p.point, .string p.code, .int .i64 p.grams, .bool p.barred]
theorem Zd5 {w : World} {g : Nat} {a0 a1 a2 a3 a4 a5 a6 a7 : Value} {t : TypeId} {fr : Nat × Nat} (h : w.1[g]? = some (.cells #[a0, a1, a2, a3, a4, a5, a6, a7] t fr)) :
 w.cell? ⟨g, 0, none⟩ = some a0 /\ w.cell? ⟨g, 1, none⟩ = some a1 /\ w.cell? ⟨g, 2, none⟩ = some a2 /\ w.cell? ⟨g, 3, none⟩ = some a3 /\ w.cell? ⟨g, 4, none⟩ = some a4 /\ w.cell? ⟨g, 5, none⟩ = some a5 /\ w.cell? ⟨g, 6, none⟩ = some a6 /\ w.cell? ⟨g, 7, none⟩ = some a7 :=
 ⟨Kaa _ _ 0 _ _ _ h, Kaa _ _ 1 _ _ _ h, Kaa _ _ 2 _ _ _ h, Kaa _ _ 3 _ _ _ h, Kaa _ _ 4 _ _ _ h, Kaa _ _ 5 _ _ _ h, Kaa _ _ 6 _ _ _ h, Kaa _ _ 7 _ _ _ h⟩
theorem Zev {F n c : Nat} {a : Option Addr} {lvl gr : Int} {nm : ByteArray} {k : Pck} {p : Pce} {w : World} (h : w.1[F]? = some (Z7v lvl nm (.slice a n c) gr k)) (hn : n <= 1000000) (hg : 0 <= gr /\ gr <= 100000000) (hp : 0 <= p.grams /\ p.grams <= 100000) :
 Calls Tryz.prog 70 #[.pointer (some ⟨F, 0, none⟩), Zky p] w fun e w' => e = .returned (.bool (decide ((n : Int) < k.pieces) && decide (gr + p.grams <= k.grams))) /\ Below w.1.size w w' := by
 obtain ⟨id, pt, code, g, bd⟩ := p
 unfold Zky
 dsimp only at *
 have hF : F < w.1.size := (Z5.1 h).1
 obtain ⟨w0, pE⟩ : ∃ w0, w0 = w.alloc (.cells #[.int .i64 id, .int .i64 pt, .string code, .int .i64 g, .bool bd] 65) := ⟨_, rfl⟩
 have pO : Below w.1.size w w0 := by rw [pE]; exact (Z9 _ w).alloc (Z1 _) _
 have h0 : w0.1[F]? = some (Z7v lvl nm (.slice a n c) gr k) := (pO.block _ hF).trans h
 unfold Z7v at h0
 obtain ⟨c0, c1, c2, c3, c4, c5, c6, c7⟩ := Zd5 h0
 have p3 : w0.cell? ⟨w.1.size, 3, none⟩ = some (.int .i64 g) := by
  rw [pE]; exact Kaa _ _ 3 _ _ _ (Z02 w _)
 have C2 := Z5a c2
 have C3 := Z5a c3
 have C4 := Z5a c4
 have C5 := Z5a c5
 have P3 := Z5a p3
 obtain ⟨kp, rB⟩ : ∃ z, z = k.pieces := ⟨_, rfl⟩
 obtain ⟨kg, rC⟩ : ∃ z, z = k.grams := ⟨_, rfl⟩
 rw [<- rB] at C4 ⊢
 rw [<- rC] at C5 ⊢
 have qE := Z0 pE
 have pP := Z0 pO
 clear rB rC h h0 c0 c1 c2 c3 c4 c5 c6 c7 p3 pE pO
 by_cases q1 : (n : Int) < kp
 ·have d1 : decide ((n : Int) < kp) = true := Kac q1
  by_cases q2 : gr + g <= kg
  all_goals
   first
    | have d2 : decide (gr + g <= kg) = true := Kac q2
    | have d2 : decide (gr + g <= kg) = false := Kad q2
   go_enter Tryz.func70, Tryz.ntmps70
   go_upto_region 1 with fail
   rw [<- qE.out]
   refine wp_region_quiet_below (by kernel_rfl) (by kernel_rfl) ?_
   repeat (go_big_quiet_step (fail))
   refine wpQuiet_nil ?_
   intro _ hw'
   obtain ⟨pp, hw''⟩ := hw'
   subst hw''
   go_wp2_with fail
   go_ret
   exact ⟨by simp [d1, d2], pP.out.trans ((Zd8 w0 pp).mono pP.out.size)⟩
 ·have d1 : decide ((n : Int) < kp) = false := Kad q1
  go_enter Tryz.func70, Tryz.ntmps70
  go_upto_region 1 with fail
  rw [<- qE.out]
  refine wp_region_quiet_below (by kernel_rfl) (by kernel_rfl) ?_
  repeat (go_big_quiet_step (fail))
  refine wpQuiet_nil ?_
  intro _ hw'
  obtain ⟨pp, hw''⟩ := hw'
  subst hw''
  go_wp2_with fail
  go_ret
  exact ⟨by simp [d1], pP.out.trans ((Zd8 w0 pp).mono pP.out.size)⟩
theorem ZbU {w : World} {F : Nat} {lvl gr gr' : Int} {nm : ByteArray} {u u' : Value} {k : Pck} (h : w.1[F]? = some (Z7v lvl nm u gr k)) :
 (w.setCell ⟨F, 2, none⟩ u').1[F]? = some (Z7v lvl nm u' gr k) /\ (w.setCell ⟨F, 3, none⟩ (.int .i64 gr')).1[F]? = some (Z7v lvl nm u gr' k) := by
 unfold Z7v at *
 constructor <;> simp [World.setCell, Kap, h]
theorem Z0F {w : World} {base : Nat} {e : TypeId} {k n : Nat} {v : Value} {xs : List Value} (h : w.ownsRow base e k v n xs) : ∃ a cap, v = .slice a n cap := by
 rcases Joins.ownsRow_forms h with ⟨rfl, hp⟩ | ⟨g, cap, rfl⟩
 ·exact ⟨none, 0, by rw [hp]⟩
 ·exact ⟨_, cap, rfl⟩
theorem Z3N {w : World} {g i : Nat} {cs : Array Value} {t : TypeId} (h : w.1[g]? = some (.cells cs t (0, 0))) : w.frozen? ⟨g, i, none⟩ = false := by
 simp [World.frozen?, h]
theorem Zf4 {w0 w5 : World} {F PP : Nat} {lvl gr id pt g : Int} {code nm : ByteArray} {bd : Bool} {k : Pck} {x0 vo v' u : Value} (h0 : w0.1[F]? = some (Z7v lvl nm u gr k)) (pH : w0.1[PP]? = some (.cells #[.int .i64 id, .int .i64 pt, .string code, .int .i64 g, .bool bd] 65 (0, 0)))
 (sF : ∀ g, vo.ownBlock = some g -> ∀ cur fr, w0.1[g]? ≠ some (.cells cur 162 fr)) (sG : ∀ g, vo.ownBlock = some g -> ∀ cur fr, w0.1[g]? ≠ some (.cells cur 65 fr))
 (hg : (w0.drew.alloc (.cells #[x0] 3)).grownBy w5 vo.ownBlock) (pQ : PP ≠ F) :
 (w5.1[F]? = some (Z7v lvl nm u gr k)) /\ w5.cell? ⟨F, 2, none⟩ = some u /\ (w5.setCell ⟨F, 2, none⟩ v').cell? ⟨F, 3, none⟩ = some (.int .i64 gr) /\ (w5.setCell ⟨F, 2, none⟩ v').cell? ⟨PP, 3, none⟩ = some (.int .i64 g) /\ w5.frozen? ⟨F, 2, none⟩ = false /\ (w5.setCell ⟨F, 2, none⟩ v').frozen? ⟨F, 3, none⟩ = false := by
 have hF : F < w0.1.size := (Z5.1 h0).1
 have hP : PP < w0.1.size := (Z5.1 pH).1
 have b1 : Below w0.1.size w0 (w0.drew.alloc (.cells #[x0] 3)) := (Z9 _ w0).drew.alloc (Z1 _) _
 have hz : (w0.drew.alloc (.cells #[x0] 3)).1.size = w0.1.size + 1 := by rw [Z6]; rfl
 have f5 : w5.1[F]? = some (Z7v lvl nm u gr k) := (hg.block F (by omega) (fun e => sF F e.symm _ _ h0)).trans ((b1.block _ hF).trans h0)
 have p5 : w5.1[PP]? = some (.cells #[.int .i64 id, .int .i64 pt, .string code, .int .i64 g, .bool bd] 65 (0, 0)) := (hg.block PP (by omega) (fun e => sG PP e.symm _ _ pH)).trans ((b1.block _ hP).trans pH)
 have f6 := (ZbU (u' := v') (gr' := gr) f5).1
 have p6 : (w5.setCell ⟨F, 2, none⟩ v').1[PP]? = some (.cells #[.int .i64 id, .int .i64 pt, .string code, .int .i64 g, .bool bd] 65 (0, 0)) := ((Z0P w5 ⟨F, 2, none⟩ v').block PP (Z5.1 p5).1 (fun e => pQ (Kav e))).trans p5
 refine ⟨f5, ?_, ?_, ?_, Z3N f5, Z3N f6⟩
 ·unfold Z7v at f5; exact Kaa _ _ 2 _ _ _ f5
 ·unfold Z7v at f6; exact Kaa _ _ 3 _ _ _ f6
 ·exact Kaa _ _ 3 _ _ _ p6
theorem Zf5 {F b n : Nat} {lvl gr : Int} {nm : ByteArray} {k : Pck} {p : Pce} {u : Value} {ids : List Int} {w : World} (h : w.1[F]? = some (Z7v lvl nm u gr k)) (hu : w.ownsRow b 3 1 u n (ids.map (Value.int .i64))) (rD : b <= F) (hb : b <= w.1.size)
 (hn : n <= 1000000) (hg : 0 <= gr /\ gr <= 100000000) (hp : 0 <= p.grams /\ p.grams <= 100000) :
 Calls Tryz.prog 71 #[.pointer (some ⟨F, 0, none⟩), Zky p] w fun e w' => (∃ r, e = .returned r) /\ Below b w w' /\ ∃ u', w'.1[F]? = some (Z7v lvl nm u' (gr + p.grams) k) /\ w'.ownsRow b 3 1 u' (n + 1) ((ids ++ [p.id]).map (Value.int .i64)) := by
 obtain ⟨id, pt, code, g, bd⟩ := p
 unfold Zky
 dsimp only at *
 obtain ⟨i0, hi⟩ := info_parts Tryz.infoI
 have HI := Z0 hi
 have hF : F < w.1.size := (Z5.1 h).1
 obtain ⟨w0, pE⟩ : ∃ w0, w0 = w.alloc (.cells #[.int .i64 id, .int .i64 pt, .string code, .int .i64 g, .bool bd] 65) := ⟨_, rfl⟩
 have rE : w0.1.size = w.1.size + 1 := by rw [pE, Z6]
 have qF : Below w.1.size w w0 := by rw [pE]; exact (Z9 _ w).alloc (Z1 _) _
 have pO : Below b w w0 := qF.mono hb
 have h0 : w0.1[F]? = some (Z7v lvl nm u gr k) := (qF.block _ hF).trans h
 have qO := Z09 hu qF
 have pH : w0.1[w.1.size]? = some (.cells #[.int .i64 id, .int .i64 pt, .string code, .int .i64 g, .bool bd] 65 (0, 0)) := by rw [pE]; exact Z02 w _
 have p0 : w0.cell? ⟨w.1.size, 0, none⟩ = some (.int .i64 id) := Kaa _ _ 0 _ _ _ pH
 obtain ⟨a, cap, rfl⟩ := Z0F qO
 have sH : w.1.size ≠ F := by omega
 have tH : F < w0.1.size := by omega
 have tI : w.1.size < w0.1.size := by omega
 have qE := Z0 pE
 have pP := Z0 pO
 have rF := Z0 rE
 have qG := Z0 qO
 have sI := Z0 h0
 have sJ := Z0 pH
 unfold Z7v at h0
 obtain ⟨c0, c1, c2, c3, c4, c5, c6, c7⟩ := Zd5 h0
 clear rE h hu qO hi h0 pH qF pO pE c0 c1 c3 c4 c5 c6 c7
 go_enter Tryz.func71, Tryz.ntmps71
 go_upto_region 1 with fail
 rw [<- qE.out]
 go_region_law (first | (refine step_append_lies _ (by rfl) _ _ _ (by rfl) b 3 i0 (.int .i64 0) 1 8 Tryz.underlying35 HI.out.1 HI.out.2.1 HI.out.2.2.1 HI.out.2.2.2 rfl (by decide) (.slice a n cap) n _ (by rfl) (qG.out.drew.alloc _) ⟨w0.1.size, 0, none⟩ 1 1 [.int .i64 id] (by rfl) (by rfl) (Z0f _ _ _) (by simp [Value.oneCell']) (by omega) (by unfold maxLen; omega) (by omega) (by have := rF.out; simp; omega) _ rfl ?_; intro a5 cap5 w5 pI pF _ _; obtain ⟨H5, s2, s3, s3p, z2, z3⟩ := Zf4 (w0 := w0) (w5 := w5) (F := F) (PP := w.1.size) (x0 := .int .i64 id) (vo := .slice a n cap) (v' := .slice (some ⟨a5, 0, none⟩) (n + 1) cap5) sI.out sJ.out (Z0t qG.out (T := 162) (by decide)) (Z0t qG.out (T := 65) (by decide)) pF sH; obtain ⟨W6, qP⟩ : ∃ W6, W6 = w5.setCell ⟨F, 2, none⟩ (.slice (some ⟨a5, 0, none⟩) (n + 1) cap5) := ⟨_, rfl⟩; rw [<- qP] at s3 s3p z3; have qH := Z0 qP; have H5 := Z0 H5; clear qP))
 all_goals
  go_wp2_with fail
  rw [<- qH.out]
  go_still_tail 11, (by kernel_rfl)
  change wpList _ _ _ _ _ W6.drew
  go_wp2_with fail
  go_end0
  have sK : W6.1[F]? = some (Z7v lvl nm (.slice (some ⟨a5, 0, none⟩) (n + 1) cap5) gr k) := by rw [qH.out]; exact (ZbU (gr' := gr) H5.out).1
  refine ⟨⟨_, rfl⟩, ?_, _, (ZbU (u' := .slice none 0 0) sK).2, ?_⟩
  ·have hz := rF.out
   have b1 : Below b w w5 := (pP.out.drew.alloc (by show b <= w0.1.size; omega) _).grown pF (by rw [Z6]; show b <= w0.1.size + 1; omega) (fun r e => (qG.out.lt r e).1)
   have b2 : Below b w W6 := by rw [qH.out]; exact b1.setCell (p := ⟨F, 2, none⟩) rD _
   exact (b2.setCell (p := ⟨F, 3, none⟩) rD _).drew
  ·have o5 : w5.ownsRow b 3 1 (.slice (some ⟨a5, 0, none⟩) (n + 1) cap5) (n + 1) ((ids ++ [id]).map (Value.int .i64)) := by rw [ZD]; exact pI
   have pQ : a5 ≠ F := fun e => Z0t o5 (T := 162) (by decide) a5 rfl _ _ (by rw [e]; exact H5.out)
   have o6 : W6.ownsRow b 3 1 (.slice (some ⟨a5, 0, none⟩) (n + 1) cap5) (n + 1) ((ids ++ [id]).map (Value.int .i64)) := by
    rw [qH.out]; exact o5.kept (Z0P _ _ _) (.inr (fun e => pQ (Kav e)))
   exact (o6.kept (Z0P _ ⟨F, 3, none⟩ _) (.inr (fun e => pQ (Kav e)))).drew
theorem Tryz.infoB4 : (Tryz.prog.info? 67).map (fun i => (i.zero, i.size, i.bytes)) = some (some (.agg #[.int .i64 0, .string ⟨#[]⟩, .slice none 0 0, .int .i64 0]), 4, 56) := by kernel_rfl
def Z0T (p : Bun × Value) : List Value := [.int .i64 p.1.lvl, .string p.1.grp, p.2, .int .i64 p.1.grams]
def OwnsB (w : World) (base : Nat) (v : Value) (bs : List Bun) : Prop :=
 ∃ L : List (Bun × Value), L.map Prod.fst = bs /\ (∀ p ∈ L, RowJ w base p.2 p.1.ids) /\ w.ownsRow base 67 4 v L.length (L.flatMap Z0T)
theorem OwnsB.nil (w : World) (base : Nat) : OwnsB w base (.slice none 0 0) [] := ⟨[], rfl, by simp, Kbb _ _ _ _⟩
theorem OwnsB.below {w w' : World} {base : Nat} {v : Value} {bs : List Bun} (h : OwnsB w base v bs) (hb : Below w.1.size w w') : OwnsB w' base v bs := by
 obtain ⟨L, hL, h1, h2⟩ := h
 exact ⟨L, hL, fun p hp => (h1 p hp).below hb, Z09 h2 hb⟩
theorem OwnsB.mono {w : World} {base base' : Nat} {v : Value} {bs : List Bun} (h : OwnsB w base v bs) (hb : base' <= base) : OwnsB w base' v bs := by
 obtain ⟨L, hL, h1, h2⟩ := h
 exact ⟨L, hL, fun p hp => (h1 p hp).mono hb, Z6g h2 hb⟩
theorem OwnsB.form {w : World} {base : Nat} {v : Value} {bs : List Bun} (h : OwnsB w base v bs) : ∃ a cap, v = .slice a bs.length cap := by
 obtain ⟨L, rfl, _, ho⟩ := h
 rw [Z7]
 exact Z0F ho
theorem OwnsB.add {W3 w2 : World} {base : Nat} {v v' u : Value} {b : Bun} {L : List (Bun × Value)} (hr : ∀ p ∈ L, RowJ W3 base p.2 p.1.ids) (hu : RowJ W3 base u b.ids) (hO : W3.ownsRow base 67 4 v L.length (L.flatMap Z0T)) (hg : W3.grownBy w2 v.ownBlock)
 (ho : w2.ownsRow base 67 4 v' (L.length + 1) (L.flatMap Z0T ++ Z0T (b, u))) : OwnsB w2 base v' (L.map Prod.fst ++ [b]) := by
 have nA := Z0t hO (T := 3) (by decide)
 refine ⟨L ++ [(b, u)], by rw [ZD]; rfl, fun p hp => ?_, ?_⟩
 ·rcases ZG.1 hp with hp | hp
  ·exact (hr p hp).kept hg (fun g e => .inr (nA g e))
  ·rw [ZI.1 hp]; exact hu.kept hg (fun g e => .inr (nA g e))
 ·rw [Kai, ZC, List.flatMap_singleton]
  simpa using ho
theorem Zg0 (lvl : Int) (nm : ByteArray) (k : Pck) (X Y : Nat) (w : World) (h0 : w.cell? ⟨X, 0, none⟩ = some (.int .i64 lvl)) (h1 : w.cell? ⟨X, 1, none⟩ = some (.string nm)) (y0 : w.cell? ⟨Y, 0, none⟩ = some (.int .i64 k.pieces)) (y1 : w.cell? ⟨Y, 1, none⟩ = some (.int .i64 k.grams)) (y2 : w.cell? ⟨Y, 2, none⟩ = some (.int .i64 k.bundles)) (y3 : w.cell? ⟨Y, 3, none⟩ = some (.int .i64 k.trays)) :
 Calls Tryz.prog 69 #[.pointer (some ⟨X, 0, none⟩), .pointer (some ⟨Y, 0, none⟩)] w fun e w' => e = .returned (.pointer (some ⟨w.1.size, 0, none⟩)) /\ w' = w.alloc (Z7v lvl nm (.slice none 0 0) 0 k) := by
 go_enter Tryz.func69, Tryz.ntmps69
 go_wp2_with fail
 go_ret
 exact ⟨rfl, rfl⟩
def stq (k : Pck) (ps : List Pce) (zs : List Int) (x : Grp) (q : Nat) : List (List Int) × List Int := Z3g k ps ((x.items.take q).filter (fun i => decide (zs.getD i.toNat (-1) = x.lvl)))
theorem ZiT (k : Pck) (ps : List Pce) (zs : List Int) (x : Grp) : stq k ps zs x x.items.length = Z3g k ps (Z0r zs x) := by unfold stq Z0r; rw [Kat]
theorem Zcf {k : Pck} {ps : List Pce} {zs : List Int} {x : Grp} {q : Nat} (h : q < x.items.length) (pQ : zs.getD (x.items[q]).toNat (-1) ≠ x.lvl) : stq k ps zs x (q + 1) = stq k ps zs x q := by
 unfold stq
 rw [Z8 h, Kb0, List.filter_cons, if_neg (by simpa using pQ), Kbq, Ka1]
theorem Zce {k : Pck} {ps : List Pce} {zs : List Int} {x : Grp} {q : Nat} (h : q < x.items.length) (he : zs.getD (x.items[q]).toNat (-1) = x.lvl) : stq k ps zs x (q + 1) = Z4k k ps (stq k ps zs x q) x.items[q] := by
 unfold stq
 rw [Z8 h, Kb0, List.filter_cons, if_pos (by simpa using he), Kbq, Z8G]
theorem ZeO (k : Pck) (ps : List Pce) (zs : List Int) (x : Grp) : ∀ q, q <= x.items.length -> (stq k ps zs x q).1.length <= q
 | 0, _ => Z1 _
 | q + 1, hq => by
  have ih := ZeO k ps zs x q (by omega)
  by_cases he : zs.getD (x.items[q]'(by omega)).toNat (-1) = x.lvl
  ·rw [Zce (by omega) he]
   unfold Z4k
   split
   ·show (stq k ps zs x q).1.length <= q + 1
    omega
   ·show ((stq k ps zs x q).1 ++ _).length <= q + 1
    rw [ZC]; simp; omega
  ·rw [Zcf (by omega) he]; omega
theorem ZfV {ps : List Pce} {l : List Int} (h : ∀ i ∈ l, 0 <= (Z15 ps i).grams) : 0 <= Z0k ps l := by
 unfold Z0k
 induction l with
 | nil => simp
 | cons i r ih =>
  simp only [Kan, Ka7]
  have := h i Kaf
  have := ih (fun j hj => h j (Kaj _ hj))
  omega
theorem Zk4 {k : Pck} {ps : List Pce} {zs : List Int} {x : Grp} (hk : 1 <= k.pieces) (sL : 0 <= k.grams) (hg : ∀ i ∈ x.items, 0 <= (Z15 ps i).grams /\ (Z15 ps i).grams <= k.grams) {q : Nat} (hq : q <= x.items.length) :
 ((stq k ps zs x q).2.length : Int) <= k.pieces /\ 0 <= Z0k ps (stq k ps zs x q).2 /\ Z0k ps (stq k ps zs x q).2 <= k.grams := by
 have hm : ∀ i ∈ (x.items.take q).filter (fun i => decide (zs.getD i.toNat (-1) = x.lvl)), i ∈ x.items := fun i hi => Kcg (Kbh.1 hi).1
 have h := ZiK hk sL _ (fun i hi => (hg i (hm i hi)).2)
 refine ⟨h.last.1, ?_, h.last.2⟩
 have sM : ∀ i ∈ (stq k ps zs x q).2, 0 <= (Z15 ps i).grams := fun i hi => (hg i (hm i (by rw [<- h.all]; exact Kck _ hi))).1
 exact ZfV sM
structure FilI (W3 : World) (base : Nat) (k : Pck) (ps : List Pce) (x : Grp) (st : List (List Int) × List Int) (wx Wc : World) (v : Value) (F : Nat) (u : Value) : Prop where
 b1 : Below W3.1.size W3 Wc
 own : OwnsB Wc base v (st.1.map (Zgu ps x))
 b2 : Below Wc.1.size Wc wx
 hF : Wc.1.size <= F
 fil : wx.1[F]? = some (Z7v x.lvl x.name u (Z0k ps st.2) k)
 row : wx.ownsRow Wc.1.size 3 1 u st.2.length ((st.2.map (fun i => (Z15 ps i).id)).map (Value.int .i64))
theorem FilI.all {W3 : World} {base : Nat} {k : Pck} {ps : List Pce} {x : Grp} {st : List (List Int) × List Int} {wx Wc : World} {v : Value} {F : Nat} {u : Value} (h : FilI W3 base k ps x st wx Wc v F u) : Below W3.1.size W3 wx := h.b1.trans (h.b2.mono h.b1.size)
theorem FilI.below {W3 : World} {base : Nat} {k : Pck} {ps : List Pce} {x : Grp} {st : List (List Int) × List Int} {wx wy Wc : World} {v : Value} {F : Nat} {u : Value} (h : FilI W3 base k ps x st wx Wc v F u) (hb : Below wx.1.size wx wy) : FilI W3 base k ps x st wy Wc v F u :=
 ⟨h.b1, h.own, h.b2.trans (hb.mono h.b2.size), h.hF, (hb.block F (Z5.1 h.fil).1).trans h.fil, Z09 h.row hb⟩
theorem FilI.put {W3 : World} {base : Nat} {k : Pck} {ps : List Pce} {x : Grp} {st : List (List Int) × List Int} {wx wy Wc : World} {v : Value} {F : Nat} {u u' : Value} (h : FilI W3 base k ps x st wx Wc v F u) {i : Int} {g' : Int} (hg : g' = Z0k ps st.2 + (Z15 ps i).grams)
 (hb : Below Wc.1.size wx wy) (hf : wy.1[F]? = some (Z7v x.lvl x.name u' g' k)) (hr : wy.ownsRow Wc.1.size 3 1 u' (st.2.length + 1) ((st.2.map (fun i => (Z15 ps i).id) ++ [(Z15 ps i).id]).map (Value.int .i64))) :
 FilI W3 base k ps x (st.1, st.2 ++ [i]) wy Wc v F u' := by
 refine ⟨h.b1, h.own, h.b2.trans hb, h.hF, ?_, ?_⟩
 ·rw [Z3F, <- hg]; exact hf
 ·show wy.ownsRow _ _ _ _ (st.2 ++ [i]).length _
  rw [ZC, ZD]
  exact hr
theorem FilI.fresh {W3 : World} {base : Nat} {k : Pck} {ps : List Pce} {x : Grp} {bs : List (List Int)} {W : World} {v : Value} (hb : Below W3.1.size W3 W) (ho : OwnsB W base v (bs.map (Zgu ps x))) :
 FilI W3 base k ps x (bs, []) (W.alloc (Z7v x.lvl x.name (.slice none 0 0) 0 k)) W v W.1.size (.slice none 0 0) :=
 ⟨hb, ho, (Z9 _ _).alloc (Z1 _) _, Z1 _, Z02 W _, Kbb _ _ _ _⟩
theorem FilI.done {W3 : World} {base : Nat} {k : Pck} {ps : List Pce} {x : Grp} {st : List (List Int) × List Int} {wx Wc w5 : World} {v v' : Value} {F : Nat} {u : Value} {o : Obj} (h : FilI W3 base k ps x st wx Wc v F u) (sN : base <= Wc.1.size) (L : List (Bun × Value)) (hL : L.map Prod.fst = st.1.map (Zgu ps x)) (hLr : ∀ p ∈ L, RowJ Wc base p.2 p.1.ids) (hLo : Wc.ownsRow base 67 4 v L.length (L.flatMap Z0T))
 (hg : (wx.alloc o).grownBy w5 v.ownBlock)
 (ho : w5.ownsRow base 67 4 v' (L.length + 1) (L.flatMap Z0T ++ [.int .i64 x.lvl, .string x.name, u, .int .i64 (Z0k ps st.2)])) : OwnsB w5 base v' ((st.1 ++ [st.2]).map (Zgu ps x)) := by
 rw [ZD, Kan, Kbe, <- hL]
 have hb : Below Wc.1.size Wc (wx.alloc o) := h.b2.alloc h.b2.size _
 refine OwnsB.add (W3 := wx.alloc o) (fun p hp => (hLr p hp).below hb) ?_ (Z09 hLo hb) hg ho
 refine RowJ.mono (base := Wc.1.size) ?_ sN
 refine Zcm ?_
 show (wx.alloc o).ownsRow _ _ _ _ (st.2.map (fun i => (Z15 ps i).id)).length _
 rw [Z7]
 exact h.row.alloc _
theorem Z4K {ps : List Pce} {i : Int} (h : 0 <= i /\ i.toNat < ps.length) : Z15 ps i = ps[i.toNat]'h.2 /\ Z15 ps i ∈ ps := by
 have e : Z15 ps i = ps[i.toNat]'h.2 := by
  unfold Z15
  rw [Z2, Z3 h.2]; rfl
 exact ⟨e, by rw [e]; exact Z4 h.2⟩
theorem ZaU {w w3 : World} {c1 c2 c3 : Array Value} {t1 t2 t3 : TypeId} (h : w3 = ((w.alloc (.cells c1 t1)).alloc (.cells c2 t2)).alloc (.cells c3 t3)) :
 w3.1[w.1.size]? = some (.cells c1 t1 (0, 0)) /\ w3.1[w.1.size + 1]? = some (.cells c2 t2 (0, 0)) /\ w3.1[w.1.size + 1 + 1]? = some (.cells c3 t3 (0, 0)) := by
 rw [h]
 obtain ⟨a, ha⟩ : ∃ a, a = w.alloc (.cells c1 t1) := ⟨_, rfl⟩
 obtain ⟨b, hb⟩ : ∃ b, b = a.alloc (.cells c2 t2) := ⟨_, rfl⟩
 have za : a.1.size = w.1.size + 1 := by rw [ha, Z6]
 have zb : b.1.size = w.1.size + 1 + 1 := by rw [hb, Z6, za]
 have na : a.1[w.1.size]? = some (.cells c1 t1 (0, 0)) := by rw [ha]; exact Z02 w _
 have nb : b.1[w.1.size + 1]? = some (.cells c2 t2 (0, 0)) := by rw [hb, <- za]; exact Z02 a _
 have nc : (b.alloc (.cells c3 t3)).1[w.1.size + 1 + 1]? = some (.cells c3 t3 (0, 0)) := by rw [<- zb]; exact Z02 b _
 rw [<- ha, <- hb]
 have nb1 : b.1[w.1.size]? = some (.cells c1 t1 (0, 0)) := by rw [hb]; exact (ZB _ _ _ (by omega)).trans na
 exact ⟨(ZB _ _ _ (by omega)).trans nb1, (ZB _ _ _ (by omega)).trans nb, nc⟩
theorem Z9v (x : Grp) (sv vp vz : Value) (m : Mai) (zs : List Int) (k : Pck) (w : World) (hs : RdInts w sv x.items) (hp : RdPces w vp m.ps) (hz : RdInts w vz zs) (pJ : zs.length = m.ps.length) (tJ : m.ps.length <= 2000) (tK : x.items.length <= 2000)
 (hit : ∀ i ∈ x.items, 0 <= i /\ i.toNat < m.ps.length) (hk : 1 <= k.pieces /\ k.pieces <= 2000 /\ 0 <= k.grams /\ k.grams <= 1000000) (hg : ∀ p ∈ m.ps, 0 <= p.grams /\ p.grams <= 50000 /\ p.grams <= k.grams) :
 Calls Tryz.prog 31 #[.agg #[.int .i64 x.lvl, .string x.name, .int .i64 x.up, sv], Z2r m vp, vz, Z4J k] w fun e w' => ∃ v, e = .returned v /\ Below w.1.size w w' /\ OwnsB w' w.1.size v (Z10 k m.ps zs x) := by
 obtain ⟨j0, hj⟩ := info_parts Tryz.infoB4
 have HJ := Z0 hj
 obtain ⟨ai, ci, rfl, rG⟩ := hs
 obtain ⟨ap, cp, rfl, pV⟩ := hp
 obtain ⟨az, cz, rfl, rH⟩ := hz
 have pW : ∀ i ∈ x.items, 0 <= (Z15 m.ps i).grams /\ (Z15 m.ps i).grams <= k.grams := fun i hi => by
  have := hg _ (Z4K (hit i hi)).2
  omega
 have sO := Z0 (fun q (hq : q <= x.items.length) => Zk4 (zs := zs) hk.1 hk.2.2.1 pW hq)
 have sP := Z0 (ZeO k m.ps zs x)
 have sQ := Z0 (ZiT k m.ps zs x)
 have tL := Z0 pW
 have sR := Z0 hit
 have HG := Z0 hg
 have sS := Z0 rG
 have sT := Z0 pV
 have sU := Z0 rH
 obtain ⟨w3, pX⟩ : ∃ w3, w3 = ((w.alloc (.cells #[.int .i64 x.lvl, .string x.name, .int .i64 x.up, .slice ai x.items.length ci] 107)).alloc (.cells #[.int .u8 m.cls, .int .u8 m.ctr, .string m.origin, .slice ap m.ps.length cp] 34)).alloc (.cells #[.int .i64 k.pieces, .int .i64 k.grams, .int .i64 k.bundles, .int .i64 k.trays] 37) := ⟨_, rfl⟩
 have rI : w3.1.size = w.1.size + 1 + 1 + 1 := by rw [pX, Z6, Z6, Z6]
 have rJ : Below w.1.size w w3 := by
  rw [pX]
  exact (((Z9 _ w).alloc (Z1 _) _).alloc (by simp) _).alloc (by simp; omega) _
 obtain ⟨g3, m3, k3⟩ := ZaU pX
 have sV := Z0 pX
 have pB := Z0 rJ
 have tM := Z0 rI
 have rK := Z0 (fun (W : World) (hB : Below w3.1.size w3 W) => Zg0 x.lvl x.name k w.1.size (w.1.size + 1 + 1) W
  (Kaa _ _ 0 _ _ _ ((hB.block _ (by omega)).trans g3)) (Kaa _ _ 1 _ _ _ ((hB.block _ (by omega)).trans g3))
  (Kaa _ _ 0 _ _ _ ((hB.block _ (by omega)).trans k3)) (Kaa _ _ 1 _ _ _ ((hB.block _ (by omega)).trans k3)) (Kaa _ _ 2 _ _ _ ((hB.block _ (by omega)).trans k3)) (Kaa _ _ 3 _ _ _ ((hB.block _ (by omega)).trans k3)))
 have pR := Z0 (fun (W : World) (hB : Below w3.1.size w3 W) =>
  (⟨Kaa _ _ 3 _ _ _ ((hB.block _ (by omega)).trans g3), Kaa _ _ 0 _ _ _ ((hB.block _ (by omega)).trans g3), Kaa _ _ 3 _ _ _ ((hB.block _ (by omega)).trans m3)⟩ : W.cell? ⟨w.1.size, 3, none⟩ = some (.slice ai x.items.length ci) /\ W.cell? ⟨w.1.size, 0, none⟩ = some (.int .i64 x.lvl) /\ W.cell? ⟨w.1.size + 1, 3, none⟩ = some (.slice ap m.ps.length cp)))
 clear hj rG pV rH pW hit hg g3 m3 k3 pX rJ rI
 obtain ⟨d0, d1, d2⟩ := pR.out w3 (Z9 _ _)
 unfold Z2r Z4J
 go_enter Tryz.func31, Tryz.ntmps31
 go_upto_region 1 with fail
 rw [<- sV.out]
 go_wp2_with (go_at_call 69; refine (rK.out _ (Z9 _ _)).mono ?_; rintro e w4 ⟨rfl, qQ⟩; obtain ⟨e0, e1, e2⟩ := pR.out w4 (by rw [qQ]; exact (Z9 _ _).alloc (Z1 _) _); have sW := Z0 qQ; clear qQ)
 go_loopw [10, 11, 20] (fun bv lv n wx => ∃ (q F : Nat) (Wc : World) (u : Value), q <= x.items.length /\ n = .int .i64 q /\ lv = .pointer (some ⟨F, 0, none⟩) /\ FilI w3 w3.1.size k m.ps x (stq k m.ps zs x q) wx Wc bv F u) (fun _ _ n _ => x.items.length - (intOf n).toNat)
 case atStart => exact ⟨0, w3.1.size, w3, .slice none 0 0, ZE _, rfl, rfl, by rw [sW.out]; exact FilI.fresh (Z9 _ _) (OwnsB.nil _ _)⟩
 case round =>
  obtain ⟨q, F, Wc, u, hq, rfl, rfl, hI⟩ := hrel
  have pY := sO.out q hq
  have pZ := sP.out q hq
  have qR := sQ.out
  obtain ⟨a, cap, rfl⟩ := Z0F hI.row
  have qI := Z0 hI.all
  obtain ⟨bn, cb, rL⟩ := hI.own.form
  rw [Z7] at rL
  subst rL
  by_cases qJ : q < x.items.length
  ·obtain ⟨gi, oi, rfl, pW, rM⟩ := sS.out (by omega)
   have rN := sR.out _ (Z4 qJ)
   have pS := Zcf (k := k) (ps := m.ps) (zs := zs) qJ
   have pT := Zce (k := k) (ps := m.ps) (zs := zs) qJ
   have c1 := rM q qJ
   obtain ⟨it, hit⟩ : ∃ it, it = x.items[q] := ⟨_, rfl⟩
   rw [<- hit] at rN pS pT c1
   obtain ⟨h0, h1⟩ := rN
   obtain ⟨p, rfl⟩ : ∃ p : Nat, it = (p : Int) := ⟨it.toNat, (Ka3 h0).symm⟩
   rw [Kar] at h1 pS pT
   have qS := Z4K (ps := m.ps) (i := (p : Int)) ⟨h0, by rw [Kar]; exact h1⟩
   have rO := HG.out _ qS.2
   have qK : Z15 m.ps (p : Int) = m.ps[p] := qS.1
   obtain ⟨gz, oz, rfl, sX, rP⟩ := sU.out (by omega)
   obtain ⟨gp, op, rfl, pA, rQ⟩ := sT.out (by omega)
   have c2 := rP p (by omega)
   obtain ⟨q0, q1, q2, q3, q4⟩ := rQ p h1
   obtain ⟨z, hz⟩ : ∃ z, z = zs[p]'(by omega) := ⟨_, rfl⟩
   have rR : zs.getD p (-1) = z := by rw [Z2, Z3 (by omega), hz]; rfl
   rw [rR] at pS pT
   rw [<- hz] at c2
   rw [qK] at rO
   obtain ⟨pc, pV⟩ : ∃ pc, pc = m.ps[p] := ⟨_, rfl⟩
   rw [<- pV] at q0 q1 q2 q3 q4 rO qK
   have pD : Below w.1.size w wr := pB.out.trans (qI.out.mono pB.out.size)
   have qT := Z0 (fun (W : World) (hB : Below wr.1.size wr W) =>
    (⟨(hB.cell (p := ⟨gp, op + p * 5, none⟩) (ZH pA pD.size)).trans ((pD.cell (p := ⟨gp, op + p * 5, none⟩) pA).trans q0), (hB.cell (p := ⟨gp, op + p * 5 + 1, none⟩) (ZH pA pD.size)).trans ((pD.cell (p := ⟨gp, op + p * 5 + 1, none⟩) pA).trans q1),
     (hB.cell (p := ⟨gp, op + p * 5 + 2, none⟩) (ZH pA pD.size)).trans ((pD.cell (p := ⟨gp, op + p * 5 + 2, none⟩) pA).trans q2), (hB.cell (p := ⟨gp, op + p * 5 + 3, none⟩) (ZH pA pD.size)).trans ((pD.cell (p := ⟨gp, op + p * 5 + 3, none⟩) pA).trans q3),
     (hB.cell (p := ⟨gp, op + p * 5 + 4, none⟩) (ZH pA pD.size)).trans ((pD.cell (p := ⟨gp, op + p * 5 + 4, none⟩) pA).trans q4)⟩ :
     W.cell? ⟨gp, op + p * 5, none⟩ = some (.int .i64 pc.id) /\ W.cell? ⟨gp, op + p * 5 + 1, none⟩ = some (.int .i64 pc.point) /\ W.cell? ⟨gp, op + p * 5 + 2, none⟩ = some (.string pc.code) /\ W.cell? ⟨gp, op + p * 5 + 3, none⟩ = some (.int .i64 pc.grams) /\ W.cell? ⟨gp, op + p * 5 + 4, none⟩ = some (.bool pc.barred)))
   have qA : gp < w3.1.size := ZH pA pB.out.size
   have sY := Z0 (fun (W : World) (hB : Below w3.1.size w3 W) =>
    (⟨(hB.cell (p := ⟨gp, op + p * 5, none⟩) qA).trans ((pB.out.cell (p := ⟨gp, op + p * 5, none⟩) pA).trans q0), (hB.cell (p := ⟨gp, op + p * 5 + 1, none⟩) qA).trans ((pB.out.cell (p := ⟨gp, op + p * 5 + 1, none⟩) pA).trans q1),
     (hB.cell (p := ⟨gp, op + p * 5 + 2, none⟩) qA).trans ((pB.out.cell (p := ⟨gp, op + p * 5 + 2, none⟩) pA).trans q2), (hB.cell (p := ⟨gp, op + p * 5 + 3, none⟩) qA).trans ((pB.out.cell (p := ⟨gp, op + p * 5 + 3, none⟩) pA).trans q3),
     (hB.cell (p := ⟨gp, op + p * 5 + 4, none⟩) qA).trans ((pB.out.cell (p := ⟨gp, op + p * 5 + 4, none⟩) pA).trans q4)⟩ :
     W.cell? ⟨gp, op + p * 5, none⟩ = some (.int .i64 pc.id) /\ W.cell? ⟨gp, op + p * 5 + 1, none⟩ = some (.int .i64 pc.point) /\ W.cell? ⟨gp, op + p * 5 + 2, none⟩ = some (.string pc.code) /\ W.cell? ⟨gp, op + p * 5 + 3, none⟩ = some (.int .i64 pc.grams) /\ W.cell? ⟨gp, op + p * 5 + 4, none⟩ = some (.bool pc.barred)))
   replace c1 := (pD.cell (p := ⟨gi, oi + q, none⟩) pW).trans c1
   replace c2 := (pD.cell (p := ⟨gz, oz + p, none⟩) sX).trans c2
   obtain ⟨d0, d1, d2⟩ := pR.out wr qI.out
   obtain ⟨p0, p1, p2, p3, p4⟩ := qT.out wr (Z9 _ _)
   have pU := Z0 qK
   obtain ⟨st, hs⟩ : ∃ st, st = stq k m.ps zs x q := ⟨_, rfl⟩
   rw [<- hs] at hI pY pZ pS pT ⊢
   have HI := Z0 hI
   obtain ⟨lv, qU⟩ : ∃ lv, lv = x.lvl := ⟨_, rfl⟩
   have rS := Z0 qU
   have sZ := Z0 pS
   have tA := Z0 pT
   have qL := Z0 pY
   have tB := Z0 pZ
   rw [<- qU] at d1 ⊢
   clear qK pS pT pY pZ qR q0 q1 q2 q3 q4 qS hit rR hz pV rM rP rQ hI qU hs
   by_cases pJ : z = lv
   ·have tC : (z == lv) = true := by simp [pJ]
    have rT := tA.out (by rw [<- rS.out]; exact pJ)
    have rU := Z0 rT
    clear rT pJ
    go_wp2_with fail
    go_quiet (fail)
    obtain ⟨wd, qV⟩ : ∃ wd, wd = wr.drewN nq := ⟨_, rfl⟩
    rw [<- qV]
    have qB : Below wr.1.size wr wd := by rw [qV]; exact below_drewN (Z9 _ _) _
    have qC := Z0 (HI.out.below qB)
    have rV := Z0 qB
    obtain ⟨e0, e1, e2⟩ := pR.out wd (qI.out.trans (qB.mono qI.out.size))
    obtain ⟨r0, r1, r2, r3, r4⟩ := qT.out wd qB
    have qM := Z0 (Zev (p := pc) qC.out.fil (by have := qL.out; omega) (by have := qL.out; omega) (by omega))
    clear qV qB p0 p1 p2 p3 p4 d0 d1 d2 c1 c2
    by_cases hf : Z6a k m.ps st.2 (p : Int)
    ·have qD : stq k m.ps zs x (q + 1) = (st.1, st.2 ++ [(p : Int)]) := by rw [rU.out]; unfold Z4k; rw [if_pos hf]
     have qW := Z0 qD
     unfold Z6a at hf
     rw [pU.out] at hf
     have hd : (decide (((st.2.length : Nat) : Int) < k.pieces) && decide (Z0k m.ps st.2 + pc.grams <= k.grams)) = true := by simp [hf.1, hf.2]
     rw [hd] at qM
     clear qD hd hf
     go_wp2_with (first | (go_at_call 70; refine qM.out.mono ?_; rintro e w5 ⟨rfl, pK⟩; have tN := Z0 pK; have pC := Z0 (qC.out.below pK); obtain ⟨f0, f1, f2⟩ := pR.out w5 pC.out.all; obtain ⟨s0, s1, s2, s3, s4⟩ := qT.out w5 (rV.out.trans (pK.mono rV.out.size)); clear pK) | (go_at_call 71; refine (Zf5 (p := pc) pC.out.fil pC.out.row pC.out.hF pC.out.b2.size (by have := qL.out; omega) (by have := qL.out; omega) (by omega)).mono ?_; rintro e w6 ⟨⟨r, rfl⟩, rW, u6, rX, rY⟩; have tD := Z0 (pC.out.put (i := (p : Int)) (g' := Z0k m.ps st.2 + pc.grams) (by rw [pU.out]) rW rX (by rw [pU.out]; exact rY)); clear rW rX rY))
     go_roundw
     case rel => exact ⟨q + 1, F, Wc, u6, by omega, by go_num, rfl, by rw [qW.out]; exact tD.out⟩
     case measure => simp [intOf]; omega
    ·have qD : stq k m.ps zs x (q + 1) = (st.1 ++ [st.2], [(p : Int)]) := by rw [rU.out]; unfold Z4k; rw [if_neg hf]
     have qW := Z0 qD
     unfold Z6a at hf
     rw [pU.out] at hf
     have hd : (decide (((st.2.length : Nat) : Int) < k.pieces) && decide (Z0k m.ps st.2 + pc.grams <= k.grams)) = false := by rw [<- Bool.decide_and]; exact Kad hf
     rw [hd] at qM
     obtain ⟨L, hL, hLr, hLo⟩ := qC.out.own
     have tE : L.length <= 2000 := by
      have := Kah List.length hL
      rw [Z7, Z7] at this
      have := tB.out
      omega
     have HL := Z0 hL
     have qX := Z0 hLr
     have pL := Z0 hLo
     clear qD hd hf hL hLr hLo
     go_wp2_with (first | (go_at_call 70; refine qM.out.mono ?_; rintro e w5 ⟨rfl, pK⟩; have pC := Z0 (qC.out.below pK); have pM := pC.out.fil; unfold Z7v at pM; obtain ⟨f0, f1, f2, f3, _⟩ := Zd5 pM; clear pM pK) | (at_builtin; refine wpList_append_own _ rfl _ _ 48 rfl w3.1.size 67 j0 (.agg #[.int .i64 0, .string ⟨#[]⟩, .slice none 0 0, .int .i64 0]) 4 56 Tryz.underlying48 HJ.out.1 HJ.out.2.1 HJ.out.2.2.1 HJ.out.2.2.2 rfl (by decide) _ L.length _ rfl ((Z09 pL.out pC.out.b2).alloc _) ⟨w5.1.size, 0, none⟩ 1 1 [.int .i64 x.lvl, .string x.name, .slice a st.2.length cap, .int .i64 (Z0k m.ps st.2)] rfl rfl (Z0f _ _ _) (by simp [Value.oneCell']) (by unfold maxLen; omega) (by omega) (by have := pC.out.all.size; simp; omega) ?_; intro v' w6 pI pF _; have qN := Z0 ((pC.out.all.alloc pC.out.all.size _).grown pF (by have := pC.out.all.size; simp; omega) (fun r e => (pL.out.lt r e).1)); have qY := Z0 (pC.out.done qC.out.b1.size L HL.out qX.out pL.out pF pI); clear pI pF) | (go_at_call 69; refine (rK.out _ qN.out).mono ?_; rintro e w7 ⟨rfl, rZ⟩; have qZ := FilI.fresh (x := x) (k := k) (ps := m.ps) qN.out qY.out; rw [<- rZ] at qZ; have pN := Z0 qZ; obtain ⟨t0, t1, t2⟩ := pR.out w7 pN.out.all; obtain ⟨s0, s1, s2, s3, s4⟩ := sY.out w7 pN.out.all; clear rZ qZ) | (go_at_call 71; refine (Zf5 (p := pc) pN.out.fil pN.out.row pN.out.hF pN.out.b2.size (by simp) (by show 0 <= (0 : Int) /\ (0 : Int) <= 100000000; decide) (by omega)).mono ?_; rintro e w8 ⟨⟨r, rfl⟩, sA, u8, sB, sC⟩; have tF := Z0 (pN.out.put (i := (p : Int)) (g' := Z0k m.ps [] + pc.grams) (by rw [pU.out]) sA sB (by rw [pU.out]; exact sC)); clear sA sB sC))
     go_roundw
     case rel => exact ⟨q + 1, w6.1.size, w6, u8, by omega, by go_num, rfl, by rw [qW.out]; exact tF.out⟩
     case measure => simp [intOf]; omega
   ·have tC : (z == lv) = false := by simp [pJ]
    have sD := sZ.out (by rw [<- rS.out]; exact pJ)
    have tG := Z0 sD
    clear sD pJ
    go_wp2_with fail
    go_quiet (fail)
    go_wp2_with fail
    go_roundw
    case rel => exact ⟨q + 1, F, Wc, _, by omega, by go_num, rfl, by rw [tG.out]; exact HI.out.below (by first | exact below_drewN (Z9 _ _) _ | exact (Z9 _ _).drew)⟩
    case measure => simp [intOf]; omega
  ·obtain rfl : q = x.items.length := by omega
   rw [qR] at hI pY pZ ⊢
   obtain ⟨st, hs⟩ : ∃ st, st = Z3g k m.ps (Z0r zs x) := ⟨_, rfl⟩
   have pG : ZiJ k m.ps (Z0r zs x) = if 0 < st.2.length then st.1 ++ [st.2] else st.1 := by rw [hs]; rfl
   rw [<- hs] at hI pY pZ ⊢
   have sE := Z0 pG
   have HI := Z0 hI
   have pM := hI.fil
   unfold Z7v at pM
   obtain ⟨f0, f1, f2, f3, _⟩ := Zd5 pM
   clear hs pG qR pM
   by_cases h0 : 0 < st.2.length
   ·have pG := sE.out
    rw [if_pos h0] at pG
    have rA := Z0 pG
    obtain ⟨L, hL, hLr, hLo⟩ := hI.own
    have tE : L.length <= 2000 := by
     have := Kah List.length hL
     rw [Z7, Z7] at this
     omega
    have HL := Z0 hL
    have qX := Z0 hLr
    have pL := Z0 hLo
    clear pG hL hLr hLo hI
    go_wp2_with (at_builtin; refine wpList_append_own _ rfl _ _ 48 rfl w3.1.size 67 j0 (.agg #[.int .i64 0, .string ⟨#[]⟩, .slice none 0 0, .int .i64 0]) 4 56 Tryz.underlying48 HJ.out.1 HJ.out.2.1 HJ.out.2.2.1 HJ.out.2.2.2 rfl (by decide) _ L.length _ rfl ((Z09 pL.out HI.out.b2).alloc _) ⟨wr.1.size, 0, none⟩ 1 1 [.int .i64 x.lvl, .string x.name, .slice a st.2.length cap, .int .i64 (Z0k m.ps st.2)] rfl rfl (Z0f _ _ _) (by simp [Value.oneCell']) (by unfold maxLen; omega) (by omega) (by have := HI.out.all.size; simp; omega) ?_; intro v' w6 pI pF _; have qN := Z0 ((HI.out.all.alloc HI.out.all.size _).grown pF (by have := HI.out.all.size; simp; omega) (fun r e => (pL.out.lt r e).1)); have qY := Z0 (HI.out.done HI.out.b1.size L HL.out qX.out pL.out pF pI); clear pI pF)
    go_ret
    refine ⟨_, rfl, pB.out.trans (qN.out.mono pB.out.size), ?_⟩
    unfold Z10
    rw [rA.out]
    exact qY.out.mono pB.out.size
   ·have pG := sE.out
    rw [if_neg h0] at pG
    have rA := Z0 pG
    clear pG hI
    go_wp2_with fail
    go_ret
    refine ⟨_, rfl, pB.out.trans (HI.out.all.mono pB.out.size), ?_⟩
    unfold Z10
    rw [rA.out]
    exact (HI.out.own.below HI.out.b2).mono pB.out.size
end Go.Proofs.YtlgajongmkhcnaaGreatDoor
