import Derived.Test.YtlgajongmkhcnaaGreatDoorQWK
import Derived.Deep.AppendLies
import Derived.Deep.RegionLaw
import Derived.Deep.RegionHeld3
import Derived.Deep.DrawnRows
import Derived.BigRegion
import Derived.Deep.DeepCutAuto
set_option maxRecDepth 100000
set_option linter.unusedVariables false
set_option linter.unusedSimpArgs false
set_option maxHeartbeats 32000000
namespace Go.Proofs.YtlgajongmkhcnaaGreatDoor
open Go.RowKit Go.Sort
theorem Z03 {a : Act} {n : Nat} {v : Value} (h : n < a.tmps.size) : (a.put (some n) v).eval (.tmp n) = v := by
 show (a.tmps.setIfInBounds n v).getD n undef = v
 simp [Kc4, h]
theorem eval_put_ne {a : Act} {n m : Nat} {v : Value} (h : n ≠ m) : (a.put (some n) v).eval (.tmp m) = a.eval (.tmp m) := by
 show (a.tmps.setIfInBounds n v).getD m undef = a.tmps.getD m undef
 simp [Kc4, h]
theorem size_put {a : Act} {d : Option Tmp} {v : Value} : (a.put d v).tmps.size = a.tmps.size := by
 cases d with
 | none => rfl
 | some d => exact Array.size_setIfInBounds
theorem Z1z {a : Act} {d : Option Tmp} {v : Value} : (a.put d v).defers = a.defers := by cases d <;> rfl
theorem Z0X {a : Act} {v : Value} {x : Operand} : (a.put none v).eval x = a.eval x := rfl
theorem Zik {a b : Act} (hs : a.tmps.size = b.tmps.size) (he : ∀ n : Nat, n < b.tmps.size -> a.eval (.tmp n) = b.eval (.tmp n)) (hd : a.defers = b.defers) : a = b := by
 obtain ⟨at', ad⟩ := a
 obtain ⟨bt, bd⟩ := b
 dsimp only at hs hd
 subst hd
 congr 1
 refine Array.ext hs (fun i h1 h2 => ?_)
 have h := he i h2
 have h3 : at'.getD i undef = bt.getD i undef := h
 rw [Kc4, Kc4, Kc8 h1, Kc8 h2] at h3
 exact h3
def Z22 (a a' : Act) : List Nat -> Act
 | [] => a
 | n :: r => (Z22 a a' r).put (some n) (a'.eval (.tmp n))
theorem Z2v (a a' : Act) : ∀ ns, (Z22 a a' ns).tmps.size = a.tmps.size
 | [] => rfl
 | n :: r => by rw [Z22, size_put, Z2v a a' r]
theorem Z3T (a a' : Act) : ∀ ns, (Z22 a a' ns).defers = a.defers
 | [] => rfl
 | n :: r => by rw [Z22, Z1z, Z3T a a' r]
theorem Z5B (a a' : Act) : ∀ (ns : List Nat) (n : Nat), n < a.tmps.size -> (n ∉ ns -> a'.eval (.tmp n) = a.eval (.tmp n)) -> (Z22 a a' ns).eval (.tmp n) = a'.eval (.tmp n)
 | [], n, _, h => (h (by simp)).symm
 | m :: r, n, hn, h => by
  by_cases e : m = n
  ·subst e
   rw [Z22, Z03 (by rw [Z2v]; exact hn)]
  ·rw [Z22, eval_put_ne e]
   exact Z5B a a' r n hn (fun h2 => h (by simp [h2, Ne.symm e]))
theorem Z5a {a a' : Act} (ns : List Nat) (hs : a'.tmps.size = a.tmps.size) (he : ∀ n : Nat, n ∉ ns -> a'.eval (.tmp n) = a.eval (.tmp n)) (hd : a'.defers = a.defers) : a' = Z22 a a' ns :=
 Zik (by rw [hs, Z2v]) (fun n hn => (Z5B a a' ns n (by rw [Z2v] at hn; exact hn) (he n)).symm) (by rw [hd, Z3T])
def Z1Q (k : Nat) : Code -> Option (Array Oper)
 | .region id ops _ => if id = k then some ops else none
 | .seq a b => match Z1Q k a with
  | some o => some o
  | none => Z1Q k b
 | .cond _ a b => match Z1Q k a with
  | some o => some o
  | none => Z1Q k b
 | .block _ c => Z1Q k c
 | .loop c => Z1Q k c
 | .scope c => Z1Q k c
 | _ => none
theorem Z4W {P : Program} {ops ops' : Array Oper} {id : Nat} {Q : Exit -> Act -> World -> Prop} {a : Act} {w : World} (h : ops = ops') (hw : (Code.region id ops' true).wp P Q a w) : (Code.region id ops true).wp P Q a w := h ▸ hw
noncomputable def Zgs : Array Oper := (Tryz.f28.body.bind (Z1Q 15)).getD #[]
theorem ZfO {P : Program} {o : Oper} {a : Act} {w w' : World} {v : Value} {K : Act -> World -> Prop} {Q : Exit -> Act -> World -> Prop} (h : (execOp a.eval o).run P w = .ok (.value v) w') (hK : K (a.put o.dst v) w') : Oper.wp P o a w K Q := by
 unfold Oper.wp
 rw [h]
 exact hK
theorem wp_skip {P : Program} {o : Oper} {a : Act} {w w' : World} {K : Act -> World -> Prop} {Q : Exit -> Act -> World -> Prop} (h : (execOp a.eval o).run P w = .ok .skip w') (hK : K (a.put o.dst undef) w') : Oper.wp P o a w K Q := by
 unfold Oper.wp
 rw [h]
 exact hK
section
variable {P : Program} {md : Region.Mode} {ops : Array Oper} {Q : Exit -> Act -> World -> Prop} {S : World -> Prop} {fuel : Nat} {listed : Array Bool} {a : Act} {w : World} {i : Nat} {rs : List Nat}
theorem Z0t (o : Oper) (v : Value) (w' : World) (ho : ops[i]? = some o) (hg : o.guard = none) (hr : (execOp a.eval o).run P w = .ok (.value v) w') (hS : S w') (hn : wpAnyH P md ops Q S fuel (listed.setIfInBounds i true) (a.put o.dst v) w')
 (hs : AllReadyH P md ops Q S fuel listed a w rs) : AllReadyH P md ops Q S fuel listed a w (i :: rs) := AllReadyH.cons ho (fun K' hK => by
 rw [if_pos (by simp [Region.wanted, hg])]
 exact ZfO hr (hK.out _ _ hS (fun _ => hn))) hs
theorem Z1J (o : Oper) (w' : World) (ho : ops[i]? = some o) (hg : o.guard = none) (hr : (execOp a.eval o).run P w = .ok .skip w') (hS : S w') (hn : wpAnyH P md ops Q S fuel (listed.setIfInBounds i true) (a.put o.dst undef) w')
 (hs : AllReadyH P md ops Q S fuel listed a w rs) : AllReadyH P md ops Q S fuel listed a w (i :: rs) := AllReadyH.cons ho (fun K' hK => by
 rw [if_pos (by simp [Region.wanted, hg])]
 exact wp_skip hr (hK.out _ _ hS (fun _ => hn))) hs
theorem Z2h (o : Oper) (ho : ops[i]? = some o) (hg : o.guard = none)
 (h : ∀ K' : Act -> World -> Prop, (∀ a w, S w -> wpAnyH P md ops Q S fuel (listed.setIfInBounds i true) a w -> K' a w) -> Oper.wp P o a w K' Q)
 (hs : AllReadyH P md ops Q S fuel listed a w rs) : AllReadyH P md ops Q S fuel listed a w (i :: rs) := AllReadyH.cons ho (fun K' hK => by
 rw [if_pos (by simp [Region.wanted, hg])]
 exact h K' (fun a w hS hn => hK.out a w hS (fun _ => hn))) hs
end
theorem Z0Z {P : Program} {md : Region.Mode} {ops : Array Oper} {Q : Exit -> Act -> World -> Prop} {S : World -> Prop} {fuel : Nat} {listed : Array Bool} {a : Act} {w : World} (i d : Nat) (v : Value) {x1 x2 x3 x4 x5} (hi : ops[i]? = some ⟨some d, x1, x2, x3, x4, x5⟩) (hQ : ∀ c (a : Act) (d : Nat) (v : Value) w, Q (.panic c) (a.put (some d) v) w -> Q (.panic c) a w) (hS : S w)
 (hy : ∀ w', S w' -> (execOp a.eval ⟨some d, x1, x2, x3, x4, x5⟩).run P w' = .ok (.value v) w') (h : wpAnyH P md ops Q S fuel (listed.setIfInBounds i true) (a.put (some d) v) w)
 (hw : Region.wanted ⟨some d, x1, x2, x3, x4, x5⟩ (yielded ops a.tmps) = true := by kernel_rfl) (hs : Region.noSelect ops = true := by kernel_rfl) (hf : Region.free md ops listed i = true := by kernel_rfl) (hr : (Region.ready md ops listed).contains i = true := by kernel_rfl) : wpAnyH P md ops Q S (fuel + 1) listed a w :=
 wpAnyH_take hi hs hf hr (fun _ _ _ h => hQ _ _ _ _ _ h) (Or.inl ⟨hw, hy⟩) hS h
set_option linter.unusedSimpArgs false in
theorem Zjl (a : Act) (w : World) (Q : Exit -> Act -> World -> Prop) {gz oz zl cn PB L k u LB bn fc : Nat} {fa : Option Addr} {x0 x1 x2 x3 x4 x5 x6 x7 : Value} (rS : 100 <= a.tmps.size) (hQ : ∀ c (a : Act) (d : Nat) (v : Value) w, Q (.panic c) (a.put (some d) v) w -> Q (.panic c) a w)
 (h3 : a.eval (.tmp 3) = .slice (some ⟨gz, oz, none⟩) zl cn) (pA : a.eval (.tmp 16) = .slice (some ⟨PB, 0, none⟩) L L) (pB : a.eval (.tmp 17) = .int .i64 k) (pC : a.eval (.tmp 19) = .pointer (some ⟨LB, 0, none⟩)) (hk : k < zl) (hu : u < L)
 (pZ : ∀ w' : World, (w' = w.drew \/ w' = w.drew.alloc (.cells #[x0, x1, x2, x3, x4, x5, x6, x7] 42)) -> w'.cell? ⟨gz, oz + k, none⟩ = some (.int .i64 u) /\ w'.cell? ⟨LB, 0, none⟩ = some x0 /\ w'.cell? ⟨LB, 1, none⟩ = some x1 /\ w'.cell? ⟨LB, 2, none⟩ = some x2 /\ w'.cell? ⟨LB, 3, none⟩ = some x3 /\ w'.cell? ⟨LB, 4, none⟩ = some x4 /\ w'.cell? ⟨LB, 5, none⟩ = some x5 /\ w'.cell? ⟨LB, 6, none⟩ = some x6 /\ w'.cell? ⟨LB, 7, none⟩ = some x7) (pI : w.cell? ⟨PB, u, none⟩ = some (.slice fa bn fc)) (qH : w.frozen? ⟨PB, u, none⟩ = false) (rT : PB < w.1.size)
 (qI : ∀ v ∈ [x0, x1, x2, x3, x4, x5, x6, x7], v.oneCell' = true) {base : Nat} {xs : List Value} (pJ : w.ownsRow base 42 8 (.slice fa bn fc) bn xs) (vW : base <= w.1.size) (vX : PB < base) (qJ : bn <= 100000)
 (pQ : ∀ w9 : World, (w.drew.alloc (.cells #[x0, x1, x2, x3, x4, x5, x6, x7] 42)).grownBy w9 (Value.slice fa bn fc).ownBlock -> w9.cell? ⟨gz, oz + k, none⟩ = some (.int .i64 u) /\ w9.cell? ⟨LB, 0, none⟩ = some x0 /\ w9.cell? ⟨LB, 1, none⟩ = some x1 /\ w9.cell? ⟨LB, 2, none⟩ = some x2 /\ w9.cell? ⟨LB, 3, none⟩ = some x3 /\ w9.cell? ⟨LB, 4, none⟩ = some x4 /\ w9.cell? ⟨LB, 5, none⟩ = some x5 /\ w9.cell? ⟨LB, 6, none⟩ = some x6 /\ w9.cell? ⟨LB, 7, none⟩ = some x7)
 (rU : ∀ w9 : World, (w.drew.alloc (.cells #[x0, x1, x2, x3, x4, x5, x6, x7] 42)).grownBy w9 (Value.slice fa bn fc).ownBlock -> ∀ x, (w9.setCell ⟨PB, u, none⟩ x).cell? ⟨gz, oz + k, none⟩ = some (.int .i64 u) /\ (w9.setCell ⟨PB, u, none⟩ x).cell? ⟨LB, 0, none⟩ = some x0 /\ (w9.setCell ⟨PB, u, none⟩ x).cell? ⟨LB, 1, none⟩ = some x1 /\ (w9.setCell ⟨PB, u, none⟩ x).cell? ⟨LB, 2, none⟩ = some x2 /\ (w9.setCell ⟨PB, u, none⟩ x).cell? ⟨LB, 3, none⟩ = some x3 /\ (w9.setCell ⟨PB, u, none⟩ x).cell? ⟨LB, 4, none⟩ = some x4 /\ (w9.setCell ⟨PB, u, none⟩ x).cell? ⟨LB, 5, none⟩ = some x5 /\ (w9.setCell ⟨PB, u, none⟩ x).cell? ⟨LB, 6, none⟩ = some x6 /\ (w9.setCell ⟨PB, u, none⟩ x).cell? ⟨LB, 7, none⟩ = some x7)
 (rV : ∀ a' g9 cap9 (w9 : World), a'.tmps.size = a.tmps.size -> (∀ n : Nat, n < 84 \/ 100 <= n -> a'.eval (.tmp n) = a.eval (.tmp n)) -> a'.defers = a.defers -> w9.ownsRow base 42 8 (.slice (some ⟨g9, 0, none⟩) (bn + 1) cap9) (bn + 1) (xs ++ [x0, x1, x2, x3, x4, x5, x6, x7]) -> (w.drew.alloc (.cells #[x0, x1, x2, x3, x4, x5, x6, x7] 42)).grownBy w9 (Value.slice fa bn fc).ownBlock -> ((Value.slice fa bn fc).ownBlock = some g9 \/ g9 = w.1.size + 1) -> Q .normal a' (w9.setCell ⟨PB, u, none⟩ (.slice (some ⟨g9, 0, none⟩) (bn + 1) cap9))) :
 (Code.region 15 Zgs true).wp Tryz.prog Q a w := by
 have vY : 84 < a.tmps.size := (by omega); have vZ : 85 < a.tmps.size := (by omega); have wA : 86 < a.tmps.size := (by omega); have wB : 87 < a.tmps.size := (by omega); have wD : 88 < a.tmps.size := (by omega); have wE : 89 < a.tmps.size := (by omega); have wF : 90 < a.tmps.size := (by omega); have wG : 91 < a.tmps.size := (by omega); have wH : 92 < a.tmps.size := (by omega); have wI : 93 < a.tmps.size := (by omega); have wJ : 94 < a.tmps.size := (by omega); have wK : 95 < a.tmps.size := (by omega); have wL : 96 < a.tmps.size := (by omega); have wM : 97 < a.tmps.size := (by omega); have wN : 98 < a.tmps.size := (by omega); have wO : 99 < a.tmps.size := (by omega)
 conv =>
  pattern Zgs
  unfold Zgs
  whnf
 refine wp_region_held_drew (S := fun w' => w'.cell? ⟨gz, oz + k, none⟩ = some (.int .i64 u) /\ w'.cell? ⟨LB, 0, none⟩ = some x0 /\ w'.cell? ⟨LB, 1, none⟩ = some x1 /\ w'.cell? ⟨LB, 2, none⟩ = some x2 /\ w'.cell? ⟨LB, 3, none⟩ = some x3 /\ w'.cell? ⟨LB, 4, none⟩ = some x4 /\ w'.cell? ⟨LB, 5, none⟩ = some x5 /\ w'.cell? ⟨LB, 6, none⟩ = some x6 /\ w'.cell? ⟨LB, 7, none⟩ = some x7) (by kernel_rfl) (pZ _ (.inl rfl)) (fun pF => ?_)
 refine Z0Z 0 84 (.slice (some ⟨PB, 0, none⟩) L L) rfl hQ pF ?_ ?_; rotate_left
 refine Z0Z 1 85 (.slice (some ⟨gz, oz, none⟩) zl cn) rfl hQ pF ?_ ?_; rotate_left
 refine Z0Z 2 86 (.int .i64 k) rfl hQ pF ?_ ?_; rotate_left
 refine Z0Z 3 87 (.pointer (some ⟨gz, oz + k, none⟩)) rfl hQ pF ?_ ?_; rotate_left
 refine Z0Z 4 88 (.int .i64 u) rfl hQ pF ?_ ?_; rotate_left
 refine Z0Z 5 89 (.slice (some ⟨PB, 0, none⟩) L L) rfl hQ pF ?_ ?_; rotate_left
 refine Z0Z 6 90 (.slice (some ⟨gz, oz, none⟩) zl cn) rfl hQ pF ?_ ?_; rotate_left
 refine Z0Z 7 91 (.int .i64 k) rfl hQ pF ?_ ?_; rotate_left
 refine Z0Z 8 92 (.pointer (some ⟨gz, oz + k, none⟩)) rfl hQ pF ?_ ?_; rotate_left
 refine Z0Z 9 93 (.int .i64 u) rfl hQ pF ?_ ?_; rotate_left
 refine Z0Z 10 94 (.pointer (some ⟨PB, u, none⟩)) rfl hQ pF ?_ ?_; rotate_left
 refine Z0Z 12 96 (.agg #[x0, x1, x2, x3, x4, x5, x6, x7]) rfl hQ pF ?_ ?_; rotate_left
 obtain ⟨i0, hi⟩ := info_parts Tryz.infoLine
 refine wpAnyH_ready (rs := [11, 13]) (by kernel_rfl) (by simp) ?_
 refine Z0t ⟨some 95, .load 40 (.tmp 94), _, _, _, none⟩ (.slice fa bn fc) w.drew rfl rfl ?_ (pZ _ (.inl rfl)) ?_ (Z0t ⟨some 97, .buildSlice 40 1 #[(0, .tmp 96)], _, _, _, none⟩ (.slice (some ⟨w.1.size, 0, none⟩) 1 1) (w.drew.alloc (.cells #[x0, x1, x2, x3, x4, x5, x6, x7] 42)) rfl rfl ?_ (pZ _ (.inr rfl)) ?_ AllReadyH.nil)
 ·simp (disch := (first | omega | (simp only [size_put]; omega))) only [execOp, eval_put_ne, Z03, h3, pA, pB, pC]
  go_simp
 ·refine wpAnyH_ready (rs := [13]) (by kernel_rfl) (by simp) ?_
  refine Z0t ⟨some 97, .buildSlice 40 1 #[(0, .tmp 96)], _, _, _, none⟩ (.slice (some ⟨w.1.size, 0, none⟩) 1 1) (w.drew.alloc (.cells #[x0, x1, x2, x3, x4, x5, x6, x7] 42)) rfl rfl ?_ (pZ _ (.inr rfl)) ?_ AllReadyH.nil
  ·simp (disch := (first | omega | (simp only [size_put]; omega))) only [execOp, eval_put_ne, Z03, h3, pA, pB, pC]
   go_simp
  refine wpAnyH_ready (rs := [14]) (by kernel_rfl) (by simp) ?_
  refine Z2h ⟨some 98, .call { callee := .builtin .append, args := #[.tmp 95, .tmp 97], argTypes := #[40, 40] }, _, _, _, none⟩ rfl rfl (fun K hK => wp_append_lies (w.drew.alloc (.cells #[x0, x1, x2, x3, x4, x5, x6, x7] 42)) (.tmp 95) (.tmp 97) 40 rfl base 42 i0 (.agg #[.int .i64 0, .int .i64 0, .int .i64 0, .int .i64 0, .int .i64 0, .int .i64 0, .int .i64 0, .int .i64 0]) 8 64 Tryz.underlying40 hi.1 hi.2.1 hi.2.2.1 hi.2.2.2 rfl (by decide) (.slice fa bn fc) bn xs ?_ ((pJ.drew).alloc _) ⟨w.1.size, 0, none⟩ 1 1 [x0, x1, x2, x3, x4, x5, x6, x7] ?_ (by rfl) (World.news_of_block (cs := #[x0, x1, x2, x3, x4, x5, x6, x7]) (t := 42) (fr := (0, 0)) (heap_alloc_new w.drew _)) qI (by omega) (by unfold maxLen; omega) (by omega) ?_ _ rfl (fun g9 cap9 w9 pM pD pV rW => hK _ _ (pQ w9 pD) ?_)) AllReadyH.nil
  ·simp (disch := (first | omega | (simp only [size_put]; omega))) only [eval_put_ne, Z03, h3, pA, pB, pC]
  ·simp (disch := (first | omega | (simp only [size_put]; omega))) only [eval_put_ne, Z03, h3, pA, pB, pC]
  ·show _ <= (w.drew.alloc _).1.size
   rw [Z6]
   show _ <= w.1.size + 1
   omega
  have qA : w9.1[PB]? = w.1[PB]? := (pD.block PB (by show PB < (w.drew.alloc _).1.size; rw [Z6]; show PB < w.1.size + 1; omega) (fun e => by have := (pJ.lt PB e.symm).1; omega)).trans (ZB w.drew _ _ rT)
  have c9 : w9.cell? ⟨PB, u, none⟩ = some (.slice fa bn fc) := (Kak (w := w) qA).trans pI
  have f9 : w9.frozen? ⟨PB, u, none⟩ = false := (Kbj (w := w) qA).trans qH
  refine Z0Z 15 99 (.pointer (some ⟨PB, u, none⟩)) rfl hQ (pQ w9 pD) ?_ ?_; rotate_left
  refine wpAnyH_ready (rs := [16]) (by kernel_rfl) (by simp) ?_
  refine Z1J ⟨none, .store 40 (.tmp 99) (.tmp 98), _, _, _, none⟩ (w9.setCell ⟨PB, u, none⟩ (.slice (some ⟨g9, 0, none⟩) (bn + 1) cap9)) rfl rfl ?_ (rU w9 pD _) ?_ AllReadyH.nil
  ·simp (disch := (first | omega | (simp only [size_put]; omega))) only [execOp, eval_put_ne, Z03, h3, pA, pB, pC]
   go_simp
  refine wpAnyH_done (by kernel_rfl) ?_ _
  refine rV _ g9 cap9 w9 ?_ ?_ ?_ pM pD (pV.imp id (fun h => h.trans (Z6 _ _)))
  ·simp only [size_put]
  ·intro n hn
   rcases hn with hn | hn
   all_goals
    (simp (disch := omega) only [Z0X, eval_put_ne])
  ·simp only [Z1z]
  all_goals first | (intro w' hS; obtain ⟨c0, c1, c2, c3, c4, c5, c6, c7, c8⟩ := hS; simp (disch := (first | omega | (simp only [size_put]; omega))) only [execOp, eval_put_ne, Z03, h3, pA, pB, pC]; first | rfl | (go_simp; done)) | (simp (disch := (first | omega | (simp only [size_put]; omega))) only [execOp, eval_put_ne, Z03, h3, pA, pB, pC]; done) | (simp (disch := (first | omega | (simp only [size_put]; omega))) only [execOp, eval_put_ne, Z03, h3, pA, pB, pC]; go_simp; done)
 ·simp (disch := (first | omega | (simp only [size_put]; omega))) only [execOp, eval_put_ne, Z03, h3, pA, pB, pC]
  go_simp
 ·refine wpAnyH_ready (rs := [11]) (by kernel_rfl) (by simp) ?_
  refine Z0t ⟨some 95, .load 40 (.tmp 94), _, _, _, none⟩ (.slice fa bn fc) (w.drew.alloc (.cells #[x0, x1, x2, x3, x4, x5, x6, x7] 42)) rfl rfl ?_ (pZ _ (.inr rfl)) ?_ AllReadyH.nil
  ·simp (disch := (first | omega | (simp only [size_put]; omega))) only [execOp, eval_put_ne, Z03, h3, pA, pB, pC]
   go_simp
  refine wpAnyH_ready (rs := [14]) (by kernel_rfl) (by simp) ?_
  refine Z2h ⟨some 98, .call { callee := .builtin .append, args := #[.tmp 95, .tmp 97], argTypes := #[40, 40] }, _, _, _, none⟩ rfl rfl (fun K hK => wp_append_lies (w.drew.alloc (.cells #[x0, x1, x2, x3, x4, x5, x6, x7] 42)) (.tmp 95) (.tmp 97) 40 rfl base 42 i0 (.agg #[.int .i64 0, .int .i64 0, .int .i64 0, .int .i64 0, .int .i64 0, .int .i64 0, .int .i64 0, .int .i64 0]) 8 64 Tryz.underlying40 hi.1 hi.2.1 hi.2.2.1 hi.2.2.2 rfl (by decide) (.slice fa bn fc) bn xs ?_ ((pJ.drew).alloc _) ⟨w.1.size, 0, none⟩ 1 1 [x0, x1, x2, x3, x4, x5, x6, x7] ?_ (by rfl) (World.news_of_block (cs := #[x0, x1, x2, x3, x4, x5, x6, x7]) (t := 42) (fr := (0, 0)) (heap_alloc_new w.drew _)) qI (by omega) (by unfold maxLen; omega) (by omega) ?_ _ rfl (fun g9 cap9 w9 pM pD pV rW => hK _ _ (pQ w9 pD) ?_)) AllReadyH.nil
  ·simp (disch := (first | omega | (simp only [size_put]; omega))) only [eval_put_ne, Z03, h3, pA, pB, pC]
  ·simp (disch := (first | omega | (simp only [size_put]; omega))) only [eval_put_ne, Z03, h3, pA, pB, pC]
  ·show _ <= (w.drew.alloc _).1.size
   rw [Z6]
   show _ <= w.1.size + 1
   omega
  have qA : w9.1[PB]? = w.1[PB]? := (pD.block PB (by show PB < (w.drew.alloc _).1.size; rw [Z6]; show PB < w.1.size + 1; omega) (fun e => by have := (pJ.lt PB e.symm).1; omega)).trans (ZB w.drew _ _ rT)
  have c9 : w9.cell? ⟨PB, u, none⟩ = some (.slice fa bn fc) := (Kak (w := w) qA).trans pI
  have f9 : w9.frozen? ⟨PB, u, none⟩ = false := (Kbj (w := w) qA).trans qH
  refine Z0Z 15 99 (.pointer (some ⟨PB, u, none⟩)) rfl hQ (pQ w9 pD) ?_ ?_; rotate_left
  refine wpAnyH_ready (rs := [16]) (by kernel_rfl) (by simp) ?_
  refine Z1J ⟨none, .store 40 (.tmp 99) (.tmp 98), _, _, _, none⟩ (w9.setCell ⟨PB, u, none⟩ (.slice (some ⟨g9, 0, none⟩) (bn + 1) cap9)) rfl rfl ?_ (rU w9 pD _) ?_ AllReadyH.nil
  ·simp (disch := (first | omega | (simp only [size_put]; omega))) only [execOp, eval_put_ne, Z03, h3, pA, pB, pC]
   go_simp
  refine wpAnyH_done (by kernel_rfl) ?_ _
  refine rV _ g9 cap9 w9 ?_ ?_ ?_ pM pD (pV.imp id (fun h => h.trans (Z6 _ _)))
  ·simp only [size_put]
  ·intro n hn
   rcases hn with hn | hn
   all_goals
    (simp (disch := omega) only [Z0X, eval_put_ne])
  ·simp only [Z1z]
  all_goals first | (intro w' hS; obtain ⟨c0, c1, c2, c3, c4, c5, c6, c7, c8⟩ := hS; simp (disch := (first | omega | (simp only [size_put]; omega))) only [execOp, eval_put_ne, Z03, h3, pA, pB, pC]; first | rfl | (go_simp; done)) | (simp (disch := (first | omega | (simp only [size_put]; omega))) only [execOp, eval_put_ne, Z03, h3, pA, pB, pC]; done) | (simp (disch := (first | omega | (simp only [size_put]; omega))) only [execOp, eval_put_ne, Z03, h3, pA, pB, pC]; go_simp; done)
 all_goals first | (intro w' hS; obtain ⟨c0, c1, c2, c3, c4, c5, c6, c7, c8⟩ := hS; simp (disch := (first | omega | (simp only [size_put]; omega))) only [execOp, eval_put_ne, Z03, h3, pA, pB, pC]; first | rfl | (go_simp; done)) | (simp (disch := (first | omega | (simp only [size_put]; omega))) only [execOp, eval_put_ne, Z03, h3, pA, pB, pC]; done) | (simp (disch := (first | omega | (simp only [size_put]; omega))) only [execOp, eval_put_ne, Z03, h3, pA, pB, pC]; go_simp; done)
abbrev Ze4 (w : World) (g : Nat) (b1 b2 b3 b4 b5 b6 b7 b8 : Value) : World := ((((((((w.setCell ⟨g, 1, none⟩ b1).setCell ⟨g, 2, none⟩ b2).setCell ⟨g, 3, none⟩ b3).setCell ⟨g, 4, none⟩ b4).setCell ⟨g, 5, none⟩ b5).setCell ⟨g, 6, none⟩ b6).setCell ⟨g, 7, none⟩ b7).setCell ⟨g, 8, none⟩ b8)
theorem Zjk {w : World} {g : Nat} {a0 a1 a2 a3 a4 a5 a6 a7 a8 a9 a10 a11 b1 b2 b3 b4 b5 b6 b7 b8 : Value} {t : TypeId} {fr : Nat × Nat} (h : w.1[g]? = some (.cells #[a0, a1, a2, a3, a4, a5, a6, a7, a8, a9, a10, a11] t fr)) :
 (Ze4 w g b1 b2 b3 b4 b5 b6 b7 b8).1[g]? = some (.cells #[a0, b1, b2, b3, b4, b5, b6, b7, b8, a9, a10, a11] t fr) := by
 simp [Ze4, World.setCell, Kap, h]
theorem Zg0 (w : World) (g : Nat) (b1 b2 b3 b4 b5 b6 b7 b8 : Value) : w.grownBy (Ze4 w g b1 b2 b3 b4 b5 b6 b7 b8) (some g) :=
 ((((((((Z08 w ⟨g, 1, none⟩ b1).trans (Z08 _ ⟨g, 2, none⟩ b2)).trans (Z08 _ ⟨g, 3, none⟩ b3)).trans (Z08 _ ⟨g, 4, none⟩ b4)).trans (Z08 _ ⟨g, 5, none⟩ b5)).trans (Z08 _ ⟨g, 6, none⟩ b6)).trans (Z08 _ ⟨g, 7, none⟩ b7)).trans (Z08 _ ⟨g, 8, none⟩ b8))
theorem Z8Z {w : World} {b j b' j' : Nat} {v : Value} (h : b ≠ b') : (w.setCell ⟨b, j, none⟩ v).cell? ⟨b', j', none⟩ = w.cell? ⟨b', j', none⟩ := World.cell?_setCell_far _ _ _ _ h
theorem Zfe {w : World} {a : Addr} : w.drew.cell? a = w.cell? a := rfl
theorem Zjr {a b : World} {r : Option Nat} (h : a.grownBy b r) : a.grownBy b.drew r := ⟨h.os, h.tape, h.output, h.size, h.block⟩
abbrev Zhz (w : World) (g : Nat) (b9 b10 b11 : Value) : World := ((w.setCell ⟨g, 9, none⟩ b9).setCell ⟨g, 10, none⟩ b10).setCell ⟨g, 11, none⟩ b11
theorem Zji {w : World} {g : Nat} {a0 a1 a2 a3 a4 a5 a6 a7 a8 a9 a10 a11 b9 b10 b11 : Value} {t : TypeId} {fr : Nat × Nat} (h : w.1[g]? = some (.cells #[a0, a1, a2, a3, a4, a5, a6, a7, a8, a9, a10, a11] t fr)) :
 (Zhz w g b9 b10 b11).1[g]? = some (.cells #[a0, a1, a2, a3, a4, a5, a6, a7, a8, b9, b10, b11] t fr) := by
 simp [Zhz, World.setCell, Kap, h]
theorem ZhA (w : World) (g : Nat) (b9 b10 b11 : Value) : w.grownBy (Zhz w g b9 b10 b11).drew (some g) :=
 Zjr (((Z08 w ⟨g, 9, none⟩ b9).trans (Z08 _ ⟨g, 10, none⟩ b10)).trans (Z08 _ ⟨g, 11, none⟩ b11))
theorem ZfW {ls : List Lev} {m : Mai} {zs : List Int} {bar : Int} {B R : Nat -> Int} {vr vz vp vl vn vb vt vc : Value} {nb nt nc : Nat} (w : World)
 (tU : RdPces w vp m.ps) (hr : RdLevs w vl ls) (hn : RdInts w vn zs) (tV : ∃ a n c, vr = .slice a n c) (tW : ∃ a n c, vz = .slice a n c) (tX : ∃ a c, vb = .slice a nb c) (tY : ∃ a c, vt = .slice a nt c) (tZ : ∃ a c, vc = .slice a nc c)
 (uA : m.ps.length <= 2000) (wP : 1 <= ls.length /\ ls.length <= 6) (rX : zs.length = m.ps.length) (rY : ∀ x ∈ zs, 0 <= x /\ x < (ls.length : Int)) (wQ : nb <= 100000 /\ nt <= 100000 /\ nc <= 100000)
 (rZ : ∀ i, i < m.ps.length -> LnIn 1000000 (Z3F m bar B R ls zs i))
 (sA : ∀ W, Below w.1.size w W -> Calls Tryz.prog 13 #[.agg #[vr, vz], vl, Z0N m vp, vn] W fun e w' => ∃ g, e = .returned (.tuple #[.slice (some ⟨g, 0, none⟩) m.ps.length m.ps.length, .int .i64 0]) /\ Below W.1.size W w' /\ W.1.size <= g /\
  w'.ownsRow W.1.size 3 1 (.slice (some ⟨g, 0, none⟩) m.ps.length m.ps.length) m.ps.length ((List.range m.ps.length).map (fun i => Value.int .i64 (R i))))
 (pW : ∀ W, Below w.1.size w W -> Calls Tryz.prog 35 #[.agg #[vr, vz], Z0N m vp] W fun e w' => ∃ g, e = .returned (.tuple #[.slice (some ⟨g, 0, none⟩) m.ps.length m.ps.length, .int .i64 0]) /\ Below W.1.size W w' /\ W.1.size <= g /\
  w'.ownsRow W.1.size 3 1 (.slice (some ⟨g, 0, none⟩) m.ps.length m.ps.length) m.ps.length ((List.range m.ps.length).map (fun i => Value.int .i64 (B i))))
 (sB : ∀ W, Below w.1.size w W -> Calls Tryz.prog 66 #[.agg #[vr, vz], .int .u8 m.cls] W fun e w' => e = .returned (.int .i64 bar) /\ Below W.1.size W w') :
 Calls Tryz.prog 28 #[.agg #[vr, vz], vl, Z0N m vp, vn, .agg #[vb, vt, vc]] w fun e w' => ∃ v, e = .returned (.tuple #[Z83 (Zd6 zs (Z3F m bar B R ls zs) m.ps.length ls.length nb nt nc) v, .int .i64 0]) /\ Below w.1.size w w' /\
  OwnsLn w' w.1.size v (Zd6 zs (Z3F m bar B R ls zs) m.ps.length ls.length nb nt nc).lines := by
 obtain ⟨ar, nr, cr, rfl⟩ := tV
 obtain ⟨az, nz, cz, rfl⟩ := tW
 obtain ⟨ab, cb, rfl⟩ := tX
 obtain ⟨at', ct, rfl⟩ := tY
 obtain ⟨ac, cc, rfl⟩ := tZ
 obtain ⟨ap, cp, rfl, sC⟩ := tU
 obtain ⟨al, cl, rfl, qB⟩ := hr
 obtain ⟨an, cn, rfl, sD⟩ := hn
 have qX := Z0 sC
 have qY := Z0 qB
 have qZ := Z0 sD
 have rA := Z0 rY
 have sE := Z0 rX
 have qC := Z0 rZ
 have rB := Z0 sA
 have pN := Z0 pW
 have sF := Z0 sB
 obtain ⟨t1, t2, t3, t4, t5, t6⟩ := Z37 (w := w) (A := .cells #[.slice ar nr cr, .slice az nz cz] 29) (B := .cells #[.int .u8 m.cls, .int .u8 m.ctr, .string m.origin, .slice ap m.ps.length cp] 34) (C := .cells #[.slice ab nb cb, .slice at' nt ct, .slice ac nc cc] 52) (D := Zan) rfl
 unfold Zan at t1 t2 t3 t4 t5 t6
 obtain ⟨W0, rC⟩ : ∃ W0, W0 = ((((w.alloc (.cells #[.slice ar nr cr, .slice az nz cz] 29)).alloc (.cells #[.int .u8 m.cls, .int .u8 m.ctr, .string m.origin, .slice ap m.ps.length cp] 34)).alloc (.cells #[.slice ab nb cb, .slice at' nt ct, .slice ac nc cc] 52)).alloc (.cells #[.slice none 0 0, .int .i64 0, .int .i64 0, .int .i64 0, .int .i64 0, .int .i64 0, .int .i64 0, .int .i64 0, .int .i64 0, .int .i64 0, .int .i64 0, .int .i64 0] 44)) := ⟨_, rfl⟩
 rw [<- rC] at t1 t2 t3 t4 t5 t6
 have sG := fun W => run_make_row' (P := Tryz.prog) 157 40 (.slice none 0 0) 24 Tryz.underlying157 Tryz.infoSL rfl .i64 .i64 ls.length (by omega) (by omega) W
 clear sC qB sD rY rX rZ sA pW sB
 unfold Z0N at rB pN ⊢
 go_enter Tryz.func28, Tryz.ntmps28
 go_wp2_with (first
  | (go_at_call 66; refine (sF.out _ k5).mono ?_; rintro e w3 ⟨rfl, pL⟩; have l2 := (pL.block _ (by omega)).trans k2; have l3 := (pL.block _ (by omega)).trans k3; have l4 := (pL.block _ (by omega)).trans k4; have l5 := Z01 k5 k5.size pL; have l6 : w.1.size + 4 <= w3.1.size := (by have := pL.size; omega); have own1 := own1'.kept (Z0a pL) (Kbm _); have own2 := sH.kept (Z0a pL) (Kbm _); have wR := pL.size; clear pL k1 k2 k3 k4 k5 own1' sH z10 z11 z20; have x23 := Kaa _ _ 3 _ _ _ l2; have wS : w.1.size + 1 < w3.1.size := (by omega); have uB := sG w3)
  | (go_at_call 35; refine (pN.out _ j5).mono ?_; rintro e w2 ⟨G2, rfl, pE, uC, sH⟩; have k1 := (pE.block _ (by omega)).trans j1; have k2 := (pE.block _ (by omega)).trans j2; have k3 := (pE.block _ (by omega)).trans j3; have k4 := (pE.block _ (by omega)).trans j4; have k5 := Z01 j5 j5.size pE; have k6 : w.1.size + 4 <= w2.1.size := (by have := pE.size; omega); have own1' := sI.kept (Z0a pE) (Kbm _); have wT := pE.size; clear pE j1 j2 j3 j4 j5 sI y10 y11 y20 y21 y22 y23; have z10 := Kaa _ _ 0 _ _ _ k1; have z11 := Kaa _ _ 1 _ _ _ k1; have z20 := Kaa _ _ 0 _ _ _ k2)
  | (go_at_call 13; rw [<- rC]; refine (rB.out _ t6).mono ?_; rintro e w1 ⟨G1, rfl, pK, uD, sI⟩; have j1 := (pK.block _ (by omega)).trans t1; have j2 := (pK.block _ (by omega)).trans t2; have j3 := (pK.block _ (by omega)).trans t3; have j4 := (pK.block _ (by omega)).trans t4; have j5 := Z01 t6 t6.size pK; have j6 : w.1.size + 4 <= w1.1.size := (by have := pK.size; omega); clear pK t1 t2 t3 t4; have y10 := Kaa _ _ 0 _ _ _ j1; have y11 := Kaa _ _ 1 _ _ _ j1; have y20 := Kaa _ _ 0 _ _ _ j2; have y21 := Kaa _ _ 1 _ _ _ j2; have y22 := Kaa _ _ 2 _ _ _ j2; have y23 := Kaa _ _ 3 _ _ _ j2))
 have sJ := Z0 own1
 have sK := Z0 own2
 have uE := Z0 l3
 have uF := Z0 l4
 have pX := Z0 l5
 have rD := (own1.lt G1 rfl).2
 have rE := (own2.lt G2 rfl).2
 have sL : Below w3.1.size w3 (w3.alloc (.cells (madeCells #[.slice none 0 0] ls.length) 40)) := (Z9 _ w3).alloc (Z1 _) _
 have sM := Z0 sL
 have sN : LnF (w3.alloc (.cells (madeCells #[.slice none 0 0] ls.length) 40)) (w3.1.size + 1) w3.1.size ls.length (Z0P zs (Z3F m bar B R ls zs) 0) (fun _ => .slice none 0 0) := LnF.nil (World.rowIs_made w3 _ _ _)
 have sO := Z0 sN
 clear own1 own2 l2 l3 l4 l5 x23 uB sG sL sN rB pN sF k6 j6 t5 t6 rC uD uC
 go_loopw [55] (fun i wr => ∃ (k : Nat) (F : Nat -> Value), k <= m.ps.length /\ i = .int .i64 k /\ Below w3.1.size w3 wr /\ w3.1.size + 1 <= wr.1.size /\ LnF wr (w3.1.size + 1) w3.1.size ls.length (Z0P zs (Z3F m bar B R ls zs) k) F) (fun i _ => m.ps.length - (intOf i).toNat)
 case atStart => exact ⟨0, _, ZE _, rfl, sM.out, by simp, sO.out⟩
 case round =>
  clear sM sO
  obtain ⟨k, F, hk, rfl, pR, rS, hF⟩ := hrel
  by_cases pS : k < m.ps.length
  ·have qD := Z0 pR
   have HF := Z0 hF
   obtain ⟨g, off, rfl, hg, sP⟩ := qX.out (by omega)
   have wU : g < w3.1.size := by have := pX.out.size; omega
   have qK := pX.out
   have e1 : ∀ (W : World), Below wr.1.size wr W -> ∀ g o, g < w3.1.size -> W.cell? ⟨g, o, none⟩ = w3.cell? ⟨g, o, none⟩ := fun W hW g o hg => (hW.cell (p := ⟨g, o, none⟩) (by have := pR.size; show g < wr.1.size; omega)).trans (pR.cell (p := ⟨g, o, none⟩) hg)
   have e0 : ∀ g o, g < w.1.size -> w3.cell? ⟨g, o, none⟩ = w.cell? ⟨g, o, none⟩ := fun g o hg => qK.cell (p := ⟨g, o, none⟩) hg
   obtain ⟨p0, p1, p2, p3, p4⟩ := (sP k pS).below (qK.trans (pR.mono qK.size)) hg
   have uG : g < wr.1.size := by omega
   have qL : k < zs.length := by rw [sE.out]; exact pS
   obtain ⟨gz, oz, rfl, sQ, sR⟩ := qZ.out (by omega)
   have qM := sR k qL
   obtain ⟨s1, s2⟩ := rA.out _ (Z4 qL)
   obtain ⟨u, hu⟩ : ∃ u : Nat, zs[k] = u := ⟨zs[k].toNat, by omega⟩
   rw [hu] at qM s2
   have pO : u < ls.length := by omega
   have qN : zs.getD k (-1) = (u : Int) := by rw [Z2, Z3 qL]; exact hu
   obtain ⟨gl, ol, rfl, uH, qB⟩ := qY.out (by omega)
   obtain ⟨lv, _, sS⟩ := qB u pO
   have sT := sS.2.2.2.2
   have pI : Zbr ls (zs.getD k (-1)) = ls[u].cents := by
    unfold Zbr
    rw [qN, Kar, Z2, Z3 pO]; rfl
   have sU : m.ps.getD k ⟨0, 0, ⟨#[]⟩, 0, false⟩ = m.ps[k] := by rw [Z2, Z3 pS]; rfl
   have sV : Z3F m bar B R ls zs k = ⟨0, 1, if m.ps[k].barred then 1 else 0, m.ps[k].grams, B k, if m.ps[k].barred then bar else 0, ls[u].cents, R k⟩ := by
    unfold Z3F Zbu
    rw [pI, sU]
   have o1 : w3.cell? ⟨G1, k, none⟩ = some (.int .i64 (R k)) := by rw [sJ.out.cellAt k (by omega), Z5Y pS]
   have o2 : w3.cell? ⟨G2, k, none⟩ = some (.int .i64 (B k)) := by rw [sK.out.cellAt k (by omega), Z5Y pS]
   have pG := Z0 sV
   have uI := (e1 wr (Z9 _ _) gz (oz + k) (by omega)).trans ((e0 gz (oz + k) sQ).trans qM)
   have sW := (e1 wr (Z9 _ _) gl (ol + u * 5 + 4) (by omega)).trans ((e0 gl (ol + u * 5 + 4) uH).trans sT)
   have q1 := (e1 wr (Z9 _ _) G1 k rD).trans o1
   have q2 := (e1 wr (Z9 _ _) G2 k rE).trans o2
   have uJ : gz < wr.1.size := by omega
   have uK : gl < wr.1.size := by omega
   have uL : G1 < wr.1.size := by omega
   have uM : G2 < wr.1.size := by omega
   have d4 : decide ((k : Int) < (m.ps.length : Int)) = true := Kac (by omega)
   have uN := Z0 (qC.out k pS)
   have qO := Z5h zs (Z3F m bar B R ls zs) k u
   have sX := Z0 (Zer zs (Z3F m bar B R ls zs) qN)
   have uO : Hid (∀ j : Nat, j ≠ u -> Z0P zs (Z3F m bar B R ls zs) (k + 1) j = Z0P zs (Z3F m bar B R ls zs) k j) := fun j hj => Zeq zs _ (by rw [qN]; omega)
   have uP := Z0 e1
   have uQ := Z0 ((e0 gz (oz + k) sQ).trans qM)
   clear sP sR qB sS sT qM hu qN pI sU sV o1 o2 e1 e0 pR hF qK s1 qX qZ qY rA qC
   generalize Z3F m bar B R ls zs k = pk at pG uN sX
   generalize ls[u] = l at sW pG
   generalize m.ps[k] = p at p0 p1 p2 p3 p4 pG
   generalize R k = rk at q1 pG
   generalize B k = bk at q2 pG
   go_wp2_with fail
   go_region
   go_upto_if 80 with fail
   obtain ⟨n1, n2, n3, n4⟩ := Z19 (w := wr) (A := .cells #[.int .i64 p.id, .int .i64 p.point, .string p.code, .int .i64 p.grams, .bool p.barred] 65) (B := .cells #[.int .i64 0, .int .i64 1, .int .i64 0, .int .i64 p.grams, .int .i64 bk, .int .i64 0, .int .i64 l.cents, .int .i64 rk] 42) rfl
   obtain ⟨W1, qE⟩ : ∃ W1, W1 = ((wr.alloc (.cells #[.int .i64 p.id, .int .i64 p.point, .string p.code, .int .i64 p.grams, .bool p.barred] 65)).alloc (.cells #[.int .i64 0, .int .i64 1, .int .i64 0, .int .i64 p.grams, .int .i64 bk, .int .i64 0, .int .i64 l.cents, .int .i64 rk] 42)).drew := ⟨_, rfl⟩
   have pK : Below wr.1.size wr W1 := by rw [qE]; exact n4.drew
   have sY : W1.1.size = wr.1.size + 2 := by rw [qE]; exact n3
   have sZ : W1.1[wr.1.size + 1]? = some (.cells #[.int .i64 0, .int .i64 1, .int .i64 0, .int .i64 p.grams, .int .i64 bk, .int .i64 0, .int .i64 l.cents, .int .i64 rk] 42 (0, 0)) := by rw [qE]; exact n2
   rw [<- qE]
   have rF := Z0 pK
   have rG := Z0 sY
   have pT := Z0 sZ
   clear qE n1 n2 n3 n4 q1 q2 uI sW p0 p1 p2 p3 p4 pK sY sZ rD rE uL uM uK uG uJ
   go_cut [] from 59 to 83 (fun wx => Below wr.1.size wr wx /\ wx.1.size = wr.1.size + 2 /\ ∃ b1 b2 : Int, Hid (pk = ⟨0, 1, b1, p.grams, bk, b2, l.cents, rk⟩) /\ wx.1[wr.1.size + 1]? = some (.cells #[.int .i64 0, .int .i64 1, .int .i64 b1, .int .i64 p.grams, .int .i64 bk, .int .i64 b2, .int .i64 l.cents, .int .i64 rk] 42 (0, 0)))
   case first =>
    have f2 := Z00 (j := 2) pT.out
    have f5 := Z00 (j := 5) pT.out
    have c2 := Kaa _ _ 2 _ _ _ pT.out
    have c5 := Kaa _ _ 5 _ _ _ pT.out
    cases tA : p.barred
    ·rw [tA] at pG
     go_wp2_with fail
     go_meet
     exact ⟨rF.out, rG.out, 0, 0, pG.out, pT.out⟩
    ·rw [tA] at pG
     go_wp2_with fail
     go_meet
     refine ⟨(rF.out.setCell (p := ⟨wr.1.size + 1, 2, none⟩) (Kbd _) _).setCell (p := ⟨wr.1.size + 1, 5, none⟩) (Kbd _) _, by simp [World.setCell]; exact rG.out, 1, bar, pG.out, ?_⟩
     have h := pT.out
     simp [World.setCell, Kap, h]
   case rest =>
    obtain ⟨pE, tB, b1, b2, tC, rH⟩ := hcut
    obtain ⟨W2, uR⟩ : ∃ W2, W2 = wc := ⟨_, rfl⟩
    subst uR
    clear rF rG pT pG
    go_wp2_with fail
    have uS := tC
    have wV := Z0 tB
    have uT := Z0 rH
    clear tB tC
    have hz := (uP.out W2 pE gz (oz + k) (by have := pX.out.size; omega)).trans uQ.out
    have tD : ∀ w' : World, w'.1[gz]? = W2.1[gz]? -> w'.1[wr.1.size + 1]? = W2.1[wr.1.size + 1]? -> w'.cell? ⟨gz, oz + k, none⟩ = some (.int .i64 u) /\ w'.cell? ⟨wr.1.size + 1, 0, none⟩ = some (.int .i64 0) /\ w'.cell? ⟨wr.1.size + 1, 1, none⟩ = some (.int .i64 1) /\ w'.cell? ⟨wr.1.size + 1, 2, none⟩ = some (.int .i64 b1) /\ w'.cell? ⟨wr.1.size + 1, 3, none⟩ = some (.int .i64 p.grams) /\ w'.cell? ⟨wr.1.size + 1, 4, none⟩ = some (.int .i64 bk) /\ w'.cell? ⟨wr.1.size + 1, 5, none⟩ = some (.int .i64 b2) /\ w'.cell? ⟨wr.1.size + 1, 6, none⟩ = some (.int .i64 l.cents) /\ w'.cell? ⟨wr.1.size + 1, 7, none⟩ = some (.int .i64 rk) := fun w' h1 h2 => by
     have h3 := h2.trans uT.out
     exact ⟨(Kak (w := W2) h1).trans hz, Kaa _ _ 0 _ _ _ h3, Kaa _ _ 1 _ _ _ h3, Kaa _ _ 2 _ _ _ h3, Kaa _ _ 3 _ _ _ h3, Kaa _ _ 4 _ _ _ h3, Kaa _ _ 5 _ _ _ h3, Kaa _ _ 6 _ _ _ h3, Kaa _ _ 7 _ _ _ h3⟩
    have qP := Z0 tD
    have qQ := HF.out.below pE
    have pI := qQ.row.cell pO
    have qH := qQ.row.frozen u
    have pJ := qQ.own u pO
    obtain ⟨Fu, qR⟩ : ∃ f, f = F u := ⟨_, rfl⟩
    have uU : ∃ fa fc, Fu = .slice fa (Z0P zs (Z3F m bar B R ls zs) k u).length fc := by
     rw [qR]
     rcases Joins.ownsRow_forms pJ with ⟨e, hp⟩ | ⟨gf, cf, e⟩
     ·exact ⟨none, 0, by rw [e, hp]⟩
     ·exact ⟨_, cf, e⟩
    rw [<- qR] at pI pJ
    have qS := Z0 qR
    obtain ⟨fa, fc, rfl⟩ := uU
    obtain ⟨bn, qJ⟩ : ∃ n, n = (Z0P zs (Z3F m bar B R ls zs) k u).length := ⟨_, rfl⟩
    rw [<- qJ] at pI pJ qS qO
    have tE := Z0 qJ
    have tF := Z0 pJ
    have tG := Z0 pE
    have tH : w3.1.size < W2.1.size := by have := pE.size; omega
    have uV : gz < W2.1.size := by have := pE.size; omega
    have uW : wr.1.size + 1 < W2.1.size := (Z5.1 rH).1
    obtain ⟨i0, hi⟩ := info_parts Tryz.infoLine
    have HI := Z0 hi
    have pW : Below W2.1.size W2 (W2.drew.alloc (.cells #[.int .i64 0, .int .i64 1, .int .i64 b1, .int .i64 p.grams, .int .i64 bk, .int .i64 b2, .int .i64 l.cents, .int .i64 rk] 42)) := (Z9 W2.1.size W2).drew.alloc (Z1 _) _
    have pN := Z0 pW
    have wW : (W2.alloc (.cells #[.int .i64 0, .int .i64 1, .int .i64 b1, .int .i64 p.grams, .int .i64 bk, .int .i64 b2, .int .i64 l.cents, .int .i64 rk] 42)).cell? ⟨w3.1.size, u, none⟩ = some (.slice fa bn fc) := (pW.cell (p := ⟨w3.1.size, u, none⟩) tH).trans pI
    have pQ : Hid (∀ w9 : World, (W2.drew.alloc (.cells #[.int .i64 0, .int .i64 1, .int .i64 b1, .int .i64 p.grams, .int .i64 bk, .int .i64 b2, .int .i64 l.cents, .int .i64 rk] 42)).grownBy w9 (Value.slice fa bn fc).ownBlock -> ∀ b, b < w3.1.size + 1 \/ b = wr.1.size + 1 /\ (Value.slice fa bn fc).ownBlock ≠ some b -> w9.1[b]? = W2.1[b]?) := fun w9 hg b hb =>
     (hg.block _ (by show b < (W2.drew.alloc _).1.size; rw [Z6]; show b < W2.1.size + 1; rcases hb with h | h <;> omega) (fun e => by
      rcases hb with h | h
      ·have := (tF.out.lt _ e.symm).1; omega
      ·exact h.2 e.symm)).trans (pN.out.block _ (by rcases hb with h | h <;> omega))
    have tI : (Value.slice fa bn fc).ownBlock ≠ some (wr.1.size + 1) := fun e => by
     have h1 := (HF.out.own u pO).lt (wr.1.size + 1) (by rw [<- qS.out]; exact e)
     omega
    have uX := Z0 tI
    clear qR qJ pJ qQ pE rH hi tD pW hz tI
    have wX : gz < w3.1.size := by have := pX.out.size; omega
    have uY : gz ≠ w3.1.size := by omega
    have uZ : wr.1.size + 1 ≠ w3.1.size := by omega
    have vA : w3.1.size < w3.1.size + 1 := Ka4 _
    have vB : gz < w3.1.size + 1 := by omega
    have qI : ∀ v ∈ [Value.int .i64 0, Value.int .i64 1, Value.int .i64 b1, Value.int .i64 p.grams, Value.int .i64 bk, Value.int .i64 b2, Value.int .i64 l.cents, Value.int .i64 rk], v.oneCell' = true := by simp [Value.oneCell']
    have qT : ∀ w9 : World, (W2.drew.alloc (.cells #[.int .i64 0, .int .i64 1, .int .i64 b1, .int .i64 p.grams, .int .i64 bk, .int .i64 b2, .int .i64 l.cents, .int .i64 rk] 42)).grownBy w9 (Value.slice fa bn fc).ownBlock -> w9.1[gz]? = W2.1[gz]? /\ w9.1[wr.1.size + 1]? = W2.1[wr.1.size + 1]? := fun w9 h => ⟨pQ.out w9 h _ (.inl vB), pQ.out w9 h _ (.inr ⟨rfl, uX.out⟩)⟩
    refine Z4W (ops' := Zgs) (by kernel_rfl) (Zjl _ W2 _ (gz := gz) (oz := oz) (zl := zs.length) (cn := cn) (PB := w3.1.size) (L := ls.length) (k := k) (u := u) (LB := wr.1.size + 1) (bn := bn) (fc := fc) (fa := fa) (base := w3.1.size + 1) (by simp) (fun _ _ _ _ _ h => h) rfl rfl rfl rfl qL pO ?_ pI qH tH qI tF.out (by omega) vA (by omega) (fun w9 h => qP.out _ (qT w9 h).1 (qT w9 h).2) (fun w9 h x => qP.out _ ((ZA _ _ _ _ uY).trans (qT w9 h).1) ((ZA _ _ _ _ uZ).trans (qT w9 h).2)) ?_)
    ·intro w' hw'
     rcases hw' with rfl | rfl
     ·exact qP.out _ rfl rfl
     ·exact qP.out _ (pN.out.block _ uV) (pN.out.block _ uW)
    intro a' g9 cap9 w9 vC vD vE pM pD pV
    rw [Z5a (a' := a') [84, 85, 86, 87, 88, 89, 90, 91, 92, 93, 94, 95, 96, 97, 98, 99] vC (fun n hn => vD n (by simp at hn; omega)) vE]
    generalize Act.eval a' (.tmp 84) = u84
    generalize Act.eval a' (.tmp 85) = u85
    generalize Act.eval a' (.tmp 86) = u86
    generalize Act.eval a' (.tmp 87) = u87
    generalize Act.eval a' (.tmp 88) = u88
    generalize Act.eval a' (.tmp 89) = u89
    generalize Act.eval a' (.tmp 90) = u90
    generalize Act.eval a' (.tmp 91) = u91
    generalize Act.eval a' (.tmp 92) = u92
    generalize Act.eval a' (.tmp 93) = u93
    generalize Act.eval a' (.tmp 94) = u94
    generalize Act.eval a' (.tmp 95) = u95
    generalize Act.eval a' (.tmp 96) = u96
    generalize Act.eval a' (.tmp 97) = u97
    generalize Act.eval a' (.tmp 98) = u98
    generalize Act.eval a' (.tmp 99) = u99
    simp only [Z22, Act.put, Kci, List.set_cons_succ, Kcy]
    go_wp2_with fail
    go_roundw
    case rel =>
     have pP : Below wr.1.size wr (W2.drew.alloc (.cells #[.int .i64 0, .int .i64 1, .int .i64 b1, .int .i64 p.grams, .int .i64 bk, .int .i64 b2, .int .i64 l.cents, .int .i64 rk] 42)) := tG.out.trans (pN.out.mono tG.out.size)
     have qF := HF.out.below pP
     have rI : (W2.drew.alloc (.cells #[.int .i64 0, .int .i64 1, .int .i64 b1, .int .i64 p.grams, .int .i64 bk, .int .i64 b2, .int .i64 l.cents, .int .i64 rk] 42)).grownBy w9 (F u).ownBlock := by rw [<- qS.out]; exact pD
     have vF : (F u).ownBlock = some g9 \/ (W2.drew.alloc (.cells #[.int .i64 0, .int .i64 1, .int .i64 b1, .int .i64 p.grams, .int .i64 bk, .int .i64 b2, .int .i64 l.cents, .int .i64 rk] 42)).1.size <= g9 := by
      rw [<- qS.out]
      exact pV.imp id (fun h => by rw [h, Z6]; exact Z1 _)
     have vG : w9.ownsRow (w3.1.size + 1) 42 8 (.slice (some ⟨g9, 0, none⟩) ((Z0P zs (Z3F m bar B R ls zs) k u).length + 1) cap9) ((Z0P zs (Z3F m bar B R ls zs) k u).length + 1) ((Z0P zs (Z3F m bar B R ls zs) k u).flatMap lnC ++ lnC pk) := by
      rw [<- tE.out, uS.out]; exact pM
     have tJ := qF.put pO pk (Ka4 _) vG rI vF
     have hG : (fun i => if i = u then Z0P zs (Z3F m bar B R ls zs) k u ++ [pk] else Z0P zs (Z3F m bar B R ls zs) k i) = Z0P zs (Z3F m bar B R ls zs) (k + 1) := funext fun j => by
      by_cases e : j = u
      ·subst e
       rw [if_pos rfl, sX.out]
      ·rw [if_neg e, uO.out j e]
     rw [hG, <- tE.out] at tJ
     have vH : ∀ b, (F u).ownBlock = some b -> w3.1.size + 1 <= b := fun b hb => ((HF.out.own u pO).lt b hb).1
     have wY := rI.size
     have vI := pP.size
     refine ⟨k + 1, _, by omega, by go_num, ((Z01 qD.out qD.out.size pP).grown rI (by omega) (fun r e => by have := vH r e; omega)).setCell (p := ⟨w3.1.size, u, none⟩) (Z1 _) _, ?_, tJ⟩
     simp [World.setCell]; omega
    case measure => simp [intOf]; omega
  ·obtain rfl : k = m.ps.length := by omega
   obtain ⟨w4, tK⟩ : ∃ x, x = wr := ⟨wr, rfl⟩
   subst tK
   have qD := Z0 pR
   have HF := Z0 hF
   have rJ : Hid ((w4.alloc Zan).1[w4.1.size]? = some Zan) := Z02 w4 _
   have rK : Hid (Below w4.1.size w4 (w4.alloc Zan)) := (Z9 _ w4).alloc (Z1 _) _
   unfold Zan at rJ rK
   have wZ := Z0 rS
   have vJ := Z0 uA
   have d4 : decide ((m.ps.length : Int) < (m.ps.length : Int)) = false := Kad (by omega)
   clear pR hF pS hk qX qZ qY rA sE sJ sK rD rE
   go_wp2_with fail
   go_loopw [103] (fun i wx => ∃ (j : Nat) (v : Value), j <= ls.length /\ i = .int .i64 j /\ Below w4.1.size w4 wx /\ w4.1.size + 1 <= wx.1.size /\ wx.1[w4.1.size]? = some (.cells #[v, .int .i64 0, .int .i64 0, .int .i64 0, .int .i64 0, .int .i64 0, .int .i64 0, .int .i64 0, .int .i64 0, .int .i64 0, .int .i64 0, .int .i64 0] 44) /\ wx.ownsRow (w4.1.size + 1) 42 8 v j (((List.range j).map (fun (j : Nat) => Z3l (j : Int) (Z0P zs (Z3F m bar B R ls zs) m.ps.length j))).flatMap lnC)) (fun i _ => ls.length - (intOf i).toNat)
   case atStart => exact ⟨0, _, ZE _, rfl, rK.out, by simp, rJ.out, Kbb _ _ _ _⟩
   case round =>
    clear rJ rK d4
    obtain ⟨j, v, hj, rfl, pP, vI, rL, hO⟩ := hrel
    have qU := Z0 pP
    have qG := Z0 rL
    obtain ⟨va, vc, rfl⟩ := Z0F hO
    have HO := Z0 hO
    by_cases rM : j < ls.length
    ·have qF := HF.out.below pP
     have vK := qF.row.cell rM
     have rN := OwnsLn.rd (qF.own j rM)
     generalize F j = fv at vK rN
     have rO := Z0 rN
     obtain ⟨S, hS⟩ : ∃ S, S = Z3l (j : Int) (Z0P zs (Z3F m bar B R ls zs) m.ps.length j) := ⟨_, rfl⟩
     have rP : Hid (∀ W, Below wr.1.size wr W -> Calls Tryz.prog 67 #[.int .i64 (j : Int), fv] W fun e w' => e = .returned (.agg #[.int .i64 S.level, .int .i64 S.pieces, .int .i64 S.barred, .int .i64 S.grams, .int .i64 S.base, .int .i64 S.bar, .int .i64 S.saved, .int .i64 S.cents]) /\ Below W.1.size W w') := fun W hW => by
      have := ZfJ (m := 1000000) (j : Int) _ fv W (rO.out.below hW) (Z9B qC.out) (by omega) (Kaw (Z5h _ _ _ _) (by omega))
      rw [<- hS] at this
      exact this
     have vL : Hid ((List.range (j + 1)).map (fun (j : Nat) => Z3l (j : Int) (Z0P zs (Z3F m bar B R ls zs) m.ps.length j)) = ((List.range j).map (fun (j : Nat) => Z3l (j : Int) (Z0P zs (Z3F m bar B R ls zs) m.ps.length j))) ++ [S]) := by rw [hS]; show _ = _; rw [Kaq, ZD]; rfl
     have rQ : ∀ W, Below wr.1.size wr W -> W.cell? ⟨w4.1.size, 0, none⟩ = some (.slice va j vc) /\ W.frozen? ⟨w4.1.size, 0, none⟩ = false := fun W hW => by
      have h1 := (hW.block w4.1.size (by omega)).trans qG.out
      exact ⟨Kaa _ _ 0 _ _ _ h1, Z00 h1⟩
     have tL := Z0 rQ
     obtain ⟨b3, f3⟩ := rQ wr (Z9 _ _)
     have tM : Hid (∀ b, (Value.slice va j vc).ownBlock = some b -> w4.1.size + 1 <= b) := fun b hb => (HO.out.lt b hb).1
     have vM : Hid (∀ w9 : World, (∀ b, b < w4.1.size + 1 -> w9.1[b]? = wr.1[b]?) -> w9.cell? ⟨w4.1.size, 0, none⟩ = some (.slice va j vc) /\ w9.frozen? ⟨w4.1.size, 0, none⟩ = false) := fun w9 h9 => by
      have h1 := (h9 w4.1.size (by omega)).trans qG.out
      exact ⟨Kaa _ _ 0 _ _ _ h1, Z00 h1⟩
     obtain ⟨i0, hi⟩ := info_parts Tryz.infoLine
     have HI := Z0 hi
     have xA : w3.1.size < wr.1.size := by omega
     clear rQ hi pP rL hO qF rN hS
     go_wp2_with fail
     go_region_law (first | (refine step_append_lies _ (by rfl) _ _ _ (by rfl) (w4.1.size + 1) 42 i0 (.agg #[.int .i64 0, .int .i64 0, .int .i64 0, .int .i64 0, .int .i64 0, .int .i64 0, .int .i64 0, .int .i64 0]) 8 64 Tryz.underlying40 HI.out.1 HI.out.2.1 HI.out.2.2.1 HI.out.2.2.2 rfl (by decide) (.slice va j vc) j _ (by rfl) ((Z09 HO.out pH).alloc _) ⟨wC.1.size, 0, none⟩ 1 1 (lnC S) (by rfl) (by rfl) (Z0f wC _ _) (by simp [Value.oneCell', lnC]) (by omega) (by unfold maxLen; omega) (by omega) (by have := pH.size; show _ <= (wC.alloc _).1.size; rw [Z6]; omega) _ rfl ?_; intro g9 cap9 w9 pM pD pV rW; have tN : Hid (∀ b, b < w4.1.size + 1 -> w9.1[b]? = wr.1[b]?) := (fun b hb => (pD.block b (by have := pH.size; show b < (wC.alloc _).1.size; rw [Z6]; omega) (fun e => by have := tM.out b e.symm; omega)).trans ((show (wC.alloc _).1[b]? = _ from ZB _ _ _ (by have := pH.size; omega)).trans (pH.block b (by omega)))); obtain ⟨e9, f9⟩ := vM.out w9 tN.out) | (go_simp; go_at_call 67; refine (rP.out _ (Z9 _ wr).drew).mono ?_; rintro e wC ⟨rfl, tO⟩; have pH : Below wr.1.size wr wC := (Z9 _ wr).drew.trans tO; clear tO; obtain ⟨bC3, fC3⟩ := tL.out wC pH; have xB : (wC.alloc (.cells #[.int .i64 S.level, .int .i64 S.pieces, .int .i64 S.barred, .int .i64 S.grams, .int .i64 S.base, .int .i64 S.bar, .int .i64 S.saved, .int .i64 S.cents] 42)).cell? ⟨w4.1.size, 0, none⟩ = some (.slice va j vc) := (tL.out _ (pH.alloc pH.size _)).1))
     all_goals
      go_wp2_with fail
      go_roundw
      case rel =>
       have h9 : w9.1[w4.1.size]? = _ := (tN.out _ (by omega)).trans qG.out
       have tP : Below w4.1.size w4 (wC.alloc (.cells #[.int .i64 S.level, .int .i64 S.pieces, .int .i64 S.barred, .int .i64 S.grams, .int .i64 S.base, .int .i64 S.bar, .int .i64 S.saved, .int .i64 S.cents] 42)) := (qU.out.trans (pH.mono qU.out.size)).alloc (Kaw qU.out.size pH.size) _
       refine ⟨j + 1, .slice (some ⟨g9, 0, none⟩) (j + 1) cap9, by omega, by go_num, ?_, ?_, ?_, ?_⟩
       ·exact (tP.grown pD tP.size (fun r e => by have := tM.out r e; omega)).setCell (p := ⟨w4.1.size, 0, none⟩) (Z1 _) _
       ·have h1 := pD.size
        have h2 := pH.size
        rw [Z6] at h1
        simp [World.setCell]; omega
       ·show (w9.1.modify w4.1.size _)[w4.1.size]? = _
        rw [Kap, if_pos rfl, h9]
        rfl
       ·rw [vL.out, Kai, Kao, Kct, Ka1]
        exact pM.kept (Z08 _ _ _) (.inr (by show some g9 ≠ some w4.1.size; have := (pM.lt g9 rfl).1; intro e; injection e; omega))
      case measure => simp [intOf]; omega
    ·obtain rfl : j = ls.length := by omega
     obtain ⟨LL, pY⟩ : ∃ LL, LL = (List.range ls.length).map (fun (j : Nat) => Z3l (j : Int) (Z0P zs (Z3F m bar B R ls zs) m.ps.length j)) := ⟨_, rfl⟩
     have hO' := HO.out
     rw [<- pY] at hO'
     have qO : LL.length = ls.length := by rw [pY, Z7, Kay]
     have rR : OwnsLn wr (w4.1.size + 1) (.slice va ls.length vc) LL := by show wr.ownsRow _ _ _ _ LL.length _; rw [qO]; exact hO'
     have rO := Z0 (OwnsLn.rd rR)
     have vN := Z0 rR
     have vO : Hid (∀ x ∈ LL, LnIn 2000000000 x) := fun x hx => by
      rw [pY] at hx
      obtain ⟨i, _, rfl⟩ := Kae.1 hx
      exact (ZbG _ (Z9B qC.out)).mono (by have := Z5h zs (Z3F m bar B R ls zs) m.ps.length i; have := vJ.out; omega)
     obtain ⟨T, hT⟩ : ∃ T, T = Z3l (ls.length : Int) LL := ⟨_, rfl⟩
     have rP : Hid (∀ W, Below wr.1.size wr W -> Calls Tryz.prog 67 #[.int .i64 (ls.length : Int), .slice va ls.length vc] W fun e w' => e = .returned (.agg #[.int .i64 T.level, .int .i64 T.pieces, .int .i64 T.barred, .int .i64 T.grams, .int .i64 T.base, .int .i64 T.bar, .int .i64 T.saved, .int .i64 T.cents]) /\ Below W.1.size W w') := fun W hW => by
      have := ZfJ (m := 2000000000) (ls.length : Int) LL _ W (rO.out.below hW) vO.out (by omega) (by omega)
      rw [<- hT] at this
      exact this
     have vP : Hid (∀ v, Z83 (Zd6 zs (Z3F m bar B R ls zs) m.ps.length ls.length nb nt nc) v = .agg #[v, .int .i64 T.level, .int .i64 T.pieces, .int .i64 T.barred, .int .i64 T.grams, .int .i64 T.base, .int .i64 T.bar, .int .i64 T.saved, .int .i64 T.cents, .int .i64 nb, .int .i64 nt, .int .i64 nc]) := fun v => by rw [hT, pY]; rfl
     have pG : Hid ((Zd6 zs (Z3F m bar B R ls zs) m.ps.length ls.length nb nt nc).lines = LL) := pY.symm
     have vQ : Hid (∀ w7, Below wr.1.size wr w7 -> w7.1[w.1.size + 1 + 1]? = w3.1[w.1.size + 1 + 1]? /\ w7.1[w.1.size + 1 + 1 + 1]? = w3.1[w.1.size + 1 + 1 + 1]? /\ w7.1[w4.1.size]? = wr.1[w4.1.size]? /\ Below w.1.size w w7) := fun w7 h7 => by
      have c1 := Z01 qD.out qD.out.size qU.out
      have c2 := Z01 c1 c1.size h7
      exact ⟨c2.block _ (by omega), c2.block _ (by omega), h7.block _ (by omega), Z01 pX.out pX.out.size c2⟩
     have b0 := Kaa _ _ 0 _ _ _ qG.out
     have d4 : decide ((ls.length : Int) < (ls.length : Int)) = false := Kad (by omega)
     clear pP rL hO hO' rR qO hT pY rM hj qC HF
     go_wp2_with (go_at_call 67; refine (rP.out _ (Z9 _ _)).mono ?_; rintro e w7 ⟨rfl, pU⟩; obtain ⟨k1, k2, k3, vR⟩ := vQ.out w7 pU; have qV := Z0 (Z09 vN.out pU); have kL := k1.trans uE.out; have kM := k2.trans uF.out; have kB := k3.trans qG.out; have KL := Z0 kL; have KM := Z0 kM; have KB := Z0 kB; have s7 := pU.size; have l0 := Kaa _ _ 0 _ _ _ kL; have l1 := Kaa _ _ 1 _ _ _ kL; have l2 := Kaa _ _ 2 _ _ _ kL; have f0 := Z00 (j := 0) kB; have f1 := Z00 (j := 1) kB; have f2 := Z00 (j := 2) kB; have f3 := Z00 (j := 3) kB; have f4 := Z00 (j := 4) kB; have f5 := Z00 (j := 5) kB; have f6 := Z00 (j := 6) kB; have f7 := Z00 (j := 7) kB; have f8 := Z00 (j := 8) kB; have f9 := Z00 (j := 9) kB; have f10 := Z00 (j := 10) kB; have f11 := Z00 (j := 11) kB; have e1 := Kaa _ _ 1 _ _ _ kB; have e2 := Kaa _ _ 2 _ _ _ kB; have e3 := Kaa _ _ 3 _ _ _ kB; have e4 := Kaa _ _ 4 _ _ _ kB; have e5 := Kaa _ _ 5 _ _ _ kB; have e6 := Kaa _ _ 6 _ _ _ kB; have e7 := Kaa _ _ 7 _ _ _ kB; have e8 := Kaa _ _ 8 _ _ _ kB; have e9 := Kaa _ _ 9 _ _ _ kB; have e10 := Kaa _ _ 10 _ _ _ kB; have e11 := Kaa _ _ 11 _ _ _ kB; clear pU k1 k2 k3 kL kM kB)
     obtain ⟨W8, qW⟩ : ∃ x, x = ((((((((w7.setCell ⟨w4.1.size, 1, none⟩ (.int .i64 T.level)).setCell ⟨w4.1.size, 2, none⟩ (.int .i64 T.pieces)).setCell ⟨w4.1.size, 3, none⟩ (.int .i64 T.barred)).setCell ⟨w4.1.size, 4, none⟩ (.int .i64 T.grams)).setCell ⟨w4.1.size, 5, none⟩ (.int .i64 T.base)).setCell ⟨w4.1.size, 6, none⟩ (.int .i64 T.bar)).setCell ⟨w4.1.size, 7, none⟩ (.int .i64 T.saved)).setCell ⟨w4.1.size, 8, none⟩ (.int .i64 T.cents)) := ⟨_, rfl⟩
     have G8 : w7.grownBy W8 (some w4.1.size) := by rw [qW]; exact Zg0 _ _ _ _ _ _ _ _ _ _
     have kB8 : W8.1[w4.1.size]? = some (.cells #[.slice va ls.length vc, .int .i64 T.level, .int .i64 T.pieces, .int .i64 T.barred, .int .i64 T.grams, .int .i64 T.base, .int .i64 T.bar, .int .i64 T.saved, .int .i64 T.cents, .int .i64 0, .int .i64 0, .int .i64 0] 44 (0, 0)) := by rw [qW]; exact Zjk KB.out
     rw [<- qW]
     have kL8 := (G8.block (w.1.size + 1 + 1) (by omega) (by intro e; injection e; omega)).trans KL.out
     have kM8 := (G8.block (w.1.size + 1 + 1 + 1) (by omega) (by intro e; injection e; omega)).trans KM.out
     have s8 := G8.size
     have tQ := Z0 G8
     have KB8 := Z0 kB8
     have KM8 := Z0 kM8
     clear qW l0 l1 l2 f0 f1 f2 f3 f4 f5 f6 f7 f8 f9 f10 f11 e1 e2 e3 e4 e5 e6 e7 e8 e9 e10 e11 KL KB KM G8
     have l0 := Kaa _ _ 0 _ _ _ kL8
     have l1 := Kaa _ _ 1 _ _ _ kL8
     have l2 := Kaa _ _ 2 _ _ _ kL8
     have f9 := Z00 (j := 9) kB8
     have f10 := Z00 (j := 10) kB8
     have f11 := Z00 (j := 11) kB8
     have e9 := Kaa _ _ 9 _ _ _ kB8
     have e10 := Kaa _ _ 10 _ _ _ kB8
     have e11 := Kaa _ _ 11 _ _ _ kB8
     have tR : ∀ W', W8.grownBy W' (some w4.1.size) -> W'.cell? ⟨w.1.size + 1 + 1, 0, none⟩ = some (.slice ab nb cb) /\ W'.cell? ⟨w.1.size + 1 + 1, 1, none⟩ = some (.slice at' nt ct) /\ W'.cell? ⟨w.1.size + 1 + 1, 2, none⟩ = some (.slice ac nc cc) := fun W' h => by
      have h1 := (h.block (w.1.size + 1 + 1) (by omega) (by intro e; injection e; omega)).trans kL8
      exact ⟨Kaa _ _ 0 _ _ _ h1, Kaa _ _ 1 _ _ _ h1, Kaa _ _ 2 _ _ _ h1⟩
     have vS := Z0 tR
     have vT : w4.1.size ≠ w.1.size + 1 + 1 := by omega
     have tS : W8.grownBy W8.drew (some w4.1.size) := ⟨rfl, rfl, rfl, Z1 _, fun _ _ _ => rfl⟩
     have vU := Z0 tS
     clear kB8 kL8 kM8 tR tS
     go_cut [] from 123 to 134 (fun wx => W8.grownBy wx (some w4.1.size) /\ wx.1[w4.1.size]? = some (.cells #[.slice va ls.length vc, .int .i64 T.level, .int .i64 T.pieces, .int .i64 T.barred, .int .i64 T.grams, .int .i64 T.base, .int .i64 T.bar, .int .i64 T.saved, .int .i64 T.cents, .int .i64 nb, .int .i64 nt, .int .i64 nc] 44 (0, 0)))
     case first =>
      go_region_held3 (fun w' => w'.cell? ⟨w.1.size + 1 + 1, 0, none⟩ = some (.slice ab nb cb) /\ w'.cell? ⟨w.1.size + 1 + 1, 1, none⟩ = some (.slice at' nt ct) /\ w'.cell? ⟨w.1.size + 1 + 1, 2, none⟩ = some (.slice ac nc cc))
       (first | exact vS.out _ vU.out | (simp only [Z8Z vT, Zfe]; exact ⟨l0, l1, l2⟩))
       (fail)
      go_wp2_with fail
      go_meet
      exact ⟨ZhA _ _ _ _ _, Zji KB8.out⟩
     case rest =>
      obtain ⟨G9, kB9⟩ := hcut
      have q4 := (G9.block (w.1.size + 1 + 1 + 1) (by omega) (by intro e; injection e; omega)).trans KM8.out
      have f0 := Z00 (j := 0) q4; have e0 := Kaa _ _ 0 _ _ _ q4; have f1 := Z00 (j := 1) q4; have e1 := Kaa _ _ 1 _ _ _ q4; have f2 := Z00 (j := 2) q4; have e2 := Kaa _ _ 2 _ _ _ q4; have f3 := Z00 (j := 3) q4; have e3 := Kaa _ _ 3 _ _ _ q4; have f4 := Z00 (j := 4) q4; have e4 := Kaa _ _ 4 _ _ _ q4; have f5 := Z00 (j := 5) q4; have e5 := Kaa _ _ 5 _ _ _ q4; have f6 := Z00 (j := 6) q4; have e6 := Kaa _ _ 6 _ _ _ q4; have f7 := Z00 (j := 7) q4; have e7 := Kaa _ _ 7 _ _ _ q4; have f8 := Z00 (j := 8) q4; have e8 := Kaa _ _ 8 _ _ _ q4; have f9 := Z00 (j := 9) q4; have e9 := Kaa _ _ 9 _ _ _ q4; have f10 := Z00 (j := 10) q4; have e10 := Kaa _ _ 10 _ _ _ q4; have f11 := Z00 (j := 11) q4; have e11 := Kaa _ _ 11 _ _ _ q4
      have d0 := Kaa _ _ 0 _ _ _ kB9; have d1 := Kaa _ _ 1 _ _ _ kB9; have d2 := Kaa _ _ 2 _ _ _ kB9; have d3 := Kaa _ _ 3 _ _ _ kB9; have d4 := Kaa _ _ 4 _ _ _ kB9; have d5 := Kaa _ _ 5 _ _ _ kB9; have d6 := Kaa _ _ 6 _ _ _ kB9; have d7 := Kaa _ _ 7 _ _ _ kB9; have d8 := Kaa _ _ 8 _ _ _ kB9; have d9 := Kaa _ _ 9 _ _ _ kB9; have d10 := Kaa _ _ 10 _ _ _ kB9; have d11 := Kaa _ _ 11 _ _ _ kB9
      have Q4 := Z0 q4
      have tT := Z0 G9
      have s9 := G9.size
      clear q4 kB9 G9
      go_wp2_with fail
      refine bodyPost_ret (results_cell_tmp rfl _ _ (w.1.size + 1 + 1 + 1) _ rfl (run_loadVar_row _ _ _ _ _ _ _ (Ze6 Q4.out) Tryz.underlying44 rfl (by kernel_rfl))) rfl ?_
      have pU := vR
      have vV := pU.size
      have tK : w.1.size + 1 + 1 + 1 < w4.1.size := by omega
      refine ⟨.slice va ls.length vc, ?_, ?_, ?_⟩
      ·rw [vP.out]
       rfl
      ·exact Z2f ((pU.grown tQ.out vV (fun r e => by injection e; omega)).grown tT.out (by omega) (fun r e => by injection e; omega)) (by omega)
      ·rw [pG.out]
       exact Z61 (((qV.out.kept tQ.out (Zc4 qV.out.lt (by omega))).kept tT.out (Zc4 qV.out.lt (by omega))).kept (ZbL _ _ _ _ _ _ _ _ _ _ _ _ _ _) (Zc4 qV.out.lt (by omega))) (by omega)
end Go.Proofs.YtlgajongmkhcnaaGreatDoor
