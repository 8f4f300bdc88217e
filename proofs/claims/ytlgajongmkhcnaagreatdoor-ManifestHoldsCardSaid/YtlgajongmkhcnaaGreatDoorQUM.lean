import Derived.Test.YtlgajongmkhcnaaGreatDoorQUK
import Derived.Deep.AppendLies
import Derived.Deep.RegionLaw
import Derived.Deep.RegionHeld3
import Derived.Deep.DrawnRows
set_option maxRecDepth 100000
set_option linter.unusedVariables false
set_option linter.unusedSimpArgs false
set_option maxHeartbeats 32000000
namespace Go.Proofs.YtlgajongmkhcnaaGreatDoor
open Go.RowKit Go.Sort
theorem Z00 {a : Act} {n : Nat} {v : Value} (h : n < a.tmps.size) : (a.put (some n) v).eval (.tmp n) = v := by
 show (a.tmps.setIfInBounds n v).getD n undef = v
 simp [Kc4, h]
theorem eval_put_ne {a : Act} {n m : Nat} {v : Value} (h : n ≠ m) : (a.put (some n) v).eval (.tmp m) = a.eval (.tmp m) := by
 show (a.tmps.setIfInBounds n v).getD m undef = a.tmps.getD m undef
 simp [Kc4, h]
theorem size_put {a : Act} {d : Option Tmp} {v : Value} : (a.put d v).tmps.size = a.tmps.size := by
 cases d with
 | none => rfl
 | some d => exact Array.size_setIfInBounds
theorem Z0O {a : Act} {d : Option Tmp} {v : Value} : (a.put d v).defers = a.defers := by cases d <;> rfl
theorem Z0u {a : Act} {v : Value} {x : Operand} : (a.put none v).eval x = a.eval x := rfl
theorem ZjM {a b : Act} (hs : a.tmps.size = b.tmps.size) (he : ∀ n : Nat, n < b.tmps.size -> a.eval (.tmp n) = b.eval (.tmp n)) (hd : a.defers = b.defers) : a = b := by
 obtain ⟨at', ad⟩ := a
 obtain ⟨bt, bd⟩ := b
 dsimp only at hs hd
 subst hd
 congr 1
 refine Array.ext hs (fun i h1 h2 => ?_)
 have h := he i h2
 have h3 : at'.getD i undef = bt.getD i undef := h
 rw [Kc4, Kc4, Kc8 h1, Kc8 h2] at h3
 exact h3
def Z1K (a a' : Act) : List Nat -> Act
 | [] => a
 | n :: r => (Z1K a a' r).put (some n) (a'.eval (.tmp n))
theorem Z2y (a a' : Act) : ∀ ns, (Z1K a a' ns).tmps.size = a.tmps.size
 | [] => rfl
 | n :: r => by rw [Z1K, size_put, Z2y a a' r]
theorem Z40 (a a' : Act) : ∀ ns, (Z1K a a' ns).defers = a.defers
 | [] => rfl
 | n :: r => by rw [Z1K, Z0O, Z40 a a' r]
theorem Z5S (a a' : Act) : ∀ (ns : List Nat) (n : Nat), n < a.tmps.size -> (n ∉ ns -> a'.eval (.tmp n) = a.eval (.tmp n)) -> (Z1K a a' ns).eval (.tmp n) = a'.eval (.tmp n)
 | [], n, _, h => (h (by simp)).symm
 | m :: r, n, hn, h => by
  by_cases e : m = n
  ·subst e
   rw [Z1K, Z00 (by rw [Z2y]; exact hn)]
  ·rw [Z1K, eval_put_ne e]
   exact Z5S a a' r n hn (fun h2 => h (by simp [h2, Ne.symm e]))
theorem Z2T {a a' : Act} (ns : List Nat) (hs : a'.tmps.size = a.tmps.size) (he : ∀ n : Nat, n ∉ ns -> a'.eval (.tmp n) = a.eval (.tmp n)) (hd : a'.defers = a.defers) : a' = Z1K a a' ns :=
 ZjM (by rw [hs, Z2y]) (fun n hn => (Z5S a a' ns n (by rw [Z2y] at hn; exact hn) (he n)).symm) (by rw [hd, Z40])
def Z1p (k : Nat) : Code -> Option (Array Oper)
 | .region id ops _ => if id = k then some ops else none
 | .seq a b => match Z1p k a with
  | some o => some o
  | none => Z1p k b
 | .cond _ a b => match Z1p k a with
  | some o => some o
  | none => Z1p k b
 | .block _ c => Z1p k c
 | .loop c => Z1p k c
 | .scope c => Z1p k c
 | _ => none
theorem Z2O {P : Program} {ops ops' : Array Oper} {id : Nat} {Q : Exit -> Act -> World -> Prop} {a : Act} {w : World} (h : ops = ops') (hw : (Code.region id ops' true).wp P Q a w) : (Code.region id ops true).wp P Q a w := h ▸ hw
noncomputable def ZhC : Array Oper := (Tryz.f28.body.bind (Z1p 15)).getD #[]
theorem ZgQ {P : Program} {o : Oper} {a : Act} {w w' : World} {v : Value} {K : Act -> World -> Prop} {Q : Exit -> Act -> World -> Prop} (h : (execOp a.eval o).run P w = .ok (.value v) w') (hK : K (a.put o.dst v) w') : Oper.wp P o a w K Q := by
 unfold Oper.wp
 rw [h]
 exact hK
theorem wp_skip {P : Program} {o : Oper} {a : Act} {w w' : World} {K : Act -> World -> Prop} {Q : Exit -> Act -> World -> Prop} (h : (execOp a.eval o).run P w = .ok .skip w') (hK : K (a.put o.dst undef) w') : Oper.wp P o a w K Q := by
 unfold Oper.wp
 rw [h]
 exact hK
section
variable {P : Program} {md : Region.Mode} {ops : Array Oper} {Q : Exit -> Act -> World -> Prop} {S : World -> Prop} {fuel : Nat} {listed : Array Bool} {a : Act} {w : World} {i : Nat} {rs : List Nat}
theorem Z0i (o : Oper) (v : Value) (w' : World) (ho : ops[i]? = some o) (hg : o.guard = none) (hr : (execOp a.eval o).run P w = .ok (.value v) w') (hS : S w') (hn : wpAnyH P md ops Q S fuel (listed.setIfInBounds i true) (a.put o.dst v) w')
 (hs : AllReadyH P md ops Q S fuel listed a w rs) : AllReadyH P md ops Q S fuel listed a w (i :: rs) := AllReadyH.cons ho (fun K' hK => by
 rw [if_pos (by simp [Region.wanted, hg])]
 exact ZgQ hr (hK.out _ _ hS (fun _ => hn))) hs
theorem Z1C (o : Oper) (w' : World) (ho : ops[i]? = some o) (hg : o.guard = none) (hr : (execOp a.eval o).run P w = .ok .skip w') (hS : S w') (hn : wpAnyH P md ops Q S fuel (listed.setIfInBounds i true) (a.put o.dst undef) w')
 (hs : AllReadyH P md ops Q S fuel listed a w rs) : AllReadyH P md ops Q S fuel listed a w (i :: rs) := AllReadyH.cons ho (fun K' hK => by
 rw [if_pos (by simp [Region.wanted, hg])]
 exact wp_skip hr (hK.out _ _ hS (fun _ => hn))) hs
theorem Z0X (o : Oper) (ho : ops[i]? = some o) (hg : o.guard = none)
 (h : ∀ K' : Act -> World -> Prop, (∀ a w, S w -> wpAnyH P md ops Q S fuel (listed.setIfInBounds i true) a w -> K' a w) -> Oper.wp P o a w K' Q)
 (hs : AllReadyH P md ops Q S fuel listed a w rs) : AllReadyH P md ops Q S fuel listed a w (i :: rs) := AllReadyH.cons ho (fun K' hK => by
 rw [if_pos (by simp [Region.wanted, hg])]
 exact h K' (fun a w hS hn => hK.out a w hS (fun _ => hn))) hs
end
theorem Z0L {P : Program} {md : Region.Mode} {ops : Array Oper} {Q : Exit -> Act -> World -> Prop} {S : World -> Prop} {fuel : Nat} {listed : Array Bool} {a : Act} {w : World} (i d : Nat) (v : Value) {x1 x2 x3 x4 x5} (hi : ops[i]? = some ⟨some d, x1, x2, x3, x4, x5⟩) (hQ : ∀ c (a : Act) (d : Nat) (v : Value) w, Q (.panic c) (a.put (some d) v) w -> Q (.panic c) a w) (hS : S w)
 (hy : ∀ w', S w' -> (execOp a.eval ⟨some d, x1, x2, x3, x4, x5⟩).run P w' = .ok (.value v) w') (h : wpAnyH P md ops Q S fuel (listed.setIfInBounds i true) (a.put (some d) v) w)
 (hw : Region.wanted ⟨some d, x1, x2, x3, x4, x5⟩ (yielded ops a.tmps) = true := by kernel_rfl) (hs : Region.noSelect ops = true := by kernel_rfl) (hf : Region.free md ops listed i = true := by kernel_rfl) (hr : (Region.ready md ops listed).contains i = true := by kernel_rfl) : wpAnyH P md ops Q S (fuel + 1) listed a w :=
 wpAnyH_take hi hs hf hr (fun _ _ _ h => hQ _ _ _ _ _ h) (Or.inl ⟨hw, hy⟩) hS h
theorem ZkI (a : Act) (w : World) (Q : Exit -> Act -> World -> Prop) {gz oz zl cn PB L k u LB bn fc : Nat} {fa : Option Addr} {x0 x1 x2 x3 x4 x5 x6 x7 : Value} (pS : 100 <= a.tmps.size) (hQ : ∀ c (a : Act) (d : Nat) (v : Value) w, Q (.panic c) (a.put (some d) v) w -> Q (.panic c) a w)
 (h3 : a.eval (.tmp 3) = .slice (some ⟨gz, oz, none⟩) zl cn) (pA : a.eval (.tmp 16) = .slice (some ⟨PB, 0, none⟩) L L) (pB : a.eval (.tmp 17) = .int .i64 k) (pC : a.eval (.tmp 19) = .pointer (some ⟨LB, 0, none⟩)) (hk : k < zl) (hu : u < L)
 (pF : ∀ w' : World, (w' = w.drew \/ w' = w.drew.alloc (.cells #[x0, x1, x2, x3, x4, x5, x6, x7] 42)) -> w'.cell? ⟨gz, oz + k, none⟩ = some (.int .i64 u) /\ w'.cell? ⟨LB, 0, none⟩ = some x0 /\ w'.cell? ⟨LB, 1, none⟩ = some x1 /\ w'.cell? ⟨LB, 2, none⟩ = some x2 /\ w'.cell? ⟨LB, 3, none⟩ = some x3 /\ w'.cell? ⟨LB, 4, none⟩ = some x4 /\ w'.cell? ⟨LB, 5, none⟩ = some x5 /\ w'.cell? ⟨LB, 6, none⟩ = some x6 /\ w'.cell? ⟨LB, 7, none⟩ = some x7) (pL : w.cell? ⟨PB, u, none⟩ = some (.slice fa bn fc)) (pM : w.frozen? ⟨PB, u, none⟩ = false) (pN : PB < w.1.size)
 (pO : ∀ v ∈ [x0, x1, x2, x3, x4, x5, x6, x7], v.oneCell' = true) {base : Nat} {xs : List Value} (pH : w.ownsRow base 42 8 (.slice fa bn fc) bn xs) (pT : base <= w.1.size) (pU : PB < base) (pV : bn <= 100000)
 (pI : ∀ w9 : World, (w.drew.alloc (.cells #[x0, x1, x2, x3, x4, x5, x6, x7] 42)).grownBy w9 (Value.slice fa bn fc).ownBlock -> w9.cell? ⟨gz, oz + k, none⟩ = some (.int .i64 u) /\ w9.cell? ⟨LB, 0, none⟩ = some x0 /\ w9.cell? ⟨LB, 1, none⟩ = some x1 /\ w9.cell? ⟨LB, 2, none⟩ = some x2 /\ w9.cell? ⟨LB, 3, none⟩ = some x3 /\ w9.cell? ⟨LB, 4, none⟩ = some x4 /\ w9.cell? ⟨LB, 5, none⟩ = some x5 /\ w9.cell? ⟨LB, 6, none⟩ = some x6 /\ w9.cell? ⟨LB, 7, none⟩ = some x7)
 (pP : ∀ w9 : World, (w.drew.alloc (.cells #[x0, x1, x2, x3, x4, x5, x6, x7] 42)).grownBy w9 (Value.slice fa bn fc).ownBlock -> ∀ x, (w9.setCell ⟨PB, u, none⟩ x).cell? ⟨gz, oz + k, none⟩ = some (.int .i64 u) /\ (w9.setCell ⟨PB, u, none⟩ x).cell? ⟨LB, 0, none⟩ = some x0 /\ (w9.setCell ⟨PB, u, none⟩ x).cell? ⟨LB, 1, none⟩ = some x1 /\ (w9.setCell ⟨PB, u, none⟩ x).cell? ⟨LB, 2, none⟩ = some x2 /\ (w9.setCell ⟨PB, u, none⟩ x).cell? ⟨LB, 3, none⟩ = some x3 /\ (w9.setCell ⟨PB, u, none⟩ x).cell? ⟨LB, 4, none⟩ = some x4 /\ (w9.setCell ⟨PB, u, none⟩ x).cell? ⟨LB, 5, none⟩ = some x5 /\ (w9.setCell ⟨PB, u, none⟩ x).cell? ⟨LB, 6, none⟩ = some x6 /\ (w9.setCell ⟨PB, u, none⟩ x).cell? ⟨LB, 7, none⟩ = some x7)
 (pQ : ∀ a' g9 cap9 (w9 : World), a'.tmps.size = a.tmps.size -> (∀ n : Nat, n < 84 \/ 100 <= n -> a'.eval (.tmp n) = a.eval (.tmp n)) -> a'.defers = a.defers -> w9.ownsRow base 42 8 (.slice (some ⟨g9, 0, none⟩) (bn + 1) cap9) (bn + 1) (xs ++ [x0, x1, x2, x3, x4, x5, x6, x7]) -> (w.drew.alloc (.cells #[x0, x1, x2, x3, x4, x5, x6, x7] 42)).grownBy w9 (Value.slice fa bn fc).ownBlock -> ((Value.slice fa bn fc).ownBlock = some g9 \/ g9 = w.1.size + 1) -> Q .normal a' (w9.setCell ⟨PB, u, none⟩ (.slice (some ⟨g9, 0, none⟩) (bn + 1) cap9))) :
 (Code.region 15 ZhC true).wp Tryz.prog Q a w := by
 have pW : 84 < a.tmps.size := (by omega); have pX : 85 < a.tmps.size := (by omega); have pY : 86 < a.tmps.size := (by omega); have pZ : 87 < a.tmps.size := (by omega); have qA : 88 < a.tmps.size := (by omega); have qB : 89 < a.tmps.size := (by omega); have qC : 90 < a.tmps.size := (by omega); have qD : 91 < a.tmps.size := (by omega); have qE : 92 < a.tmps.size := (by omega); have qF : 93 < a.tmps.size := (by omega); have qG : 94 < a.tmps.size := (by omega); have qH : 95 < a.tmps.size := (by omega); have qI : 96 < a.tmps.size := (by omega); have qJ : 97 < a.tmps.size := (by omega); have qK : 98 < a.tmps.size := (by omega); have qL : 99 < a.tmps.size := (by omega)
 conv =>
  pattern ZhC
  unfold ZhC
  whnf
 refine wp_region_held_drew (S := fun w' => w'.cell? ⟨gz, oz + k, none⟩ = some (.int .i64 u) /\ w'.cell? ⟨LB, 0, none⟩ = some x0 /\ w'.cell? ⟨LB, 1, none⟩ = some x1 /\ w'.cell? ⟨LB, 2, none⟩ = some x2 /\ w'.cell? ⟨LB, 3, none⟩ = some x3 /\ w'.cell? ⟨LB, 4, none⟩ = some x4 /\ w'.cell? ⟨LB, 5, none⟩ = some x5 /\ w'.cell? ⟨LB, 6, none⟩ = some x6 /\ w'.cell? ⟨LB, 7, none⟩ = some x7) (by kernel_rfl) (pF _ (.inl rfl)) (fun pD => ?_)
 refine Z0L 0 84 (.slice (some ⟨PB, 0, none⟩) L L) rfl hQ pD ?_ ?_; rotate_left
 refine Z0L 1 85 (.slice (some ⟨gz, oz, none⟩) zl cn) rfl hQ pD ?_ ?_; rotate_left
 refine Z0L 2 86 (.int .i64 k) rfl hQ pD ?_ ?_; rotate_left
 refine Z0L 3 87 (.pointer (some ⟨gz, oz + k, none⟩)) rfl hQ pD ?_ ?_; rotate_left
 refine Z0L 4 88 (.int .i64 u) rfl hQ pD ?_ ?_; rotate_left
 refine Z0L 5 89 (.slice (some ⟨PB, 0, none⟩) L L) rfl hQ pD ?_ ?_; rotate_left
 refine Z0L 6 90 (.slice (some ⟨gz, oz, none⟩) zl cn) rfl hQ pD ?_ ?_; rotate_left
 refine Z0L 7 91 (.int .i64 k) rfl hQ pD ?_ ?_; rotate_left
 refine Z0L 8 92 (.pointer (some ⟨gz, oz + k, none⟩)) rfl hQ pD ?_ ?_; rotate_left
 refine Z0L 9 93 (.int .i64 u) rfl hQ pD ?_ ?_; rotate_left
 refine Z0L 10 94 (.pointer (some ⟨PB, u, none⟩)) rfl hQ pD ?_ ?_; rotate_left
 refine Z0L 12 96 (.agg #[x0, x1, x2, x3, x4, x5, x6, x7]) rfl hQ pD ?_ ?_; rotate_left
 obtain ⟨i0, hi⟩ := info_parts Tryz.infoLine
 refine wpAnyH_ready (rs := [11, 13]) (by kernel_rfl) (by simp) ?_
 refine Z0i ⟨some 95, .load 40 (.tmp 94), _, _, _, none⟩ (.slice fa bn fc) w.drew rfl rfl ?_ (pF _ (.inl rfl)) ?_ (Z0i ⟨some 97, .buildSlice 40 1 #[(0, .tmp 96)], _, _, _, none⟩ (.slice (some ⟨w.1.size, 0, none⟩) 1 1) (w.drew.alloc (.cells #[x0, x1, x2, x3, x4, x5, x6, x7] 42)) rfl rfl ?_ (pF _ (.inr rfl)) ?_ AllReadyH.nil)
 ·simp (disch := (first | omega | (simp only [size_put]; omega))) only [execOp, eval_put_ne, Z00, h3, pA, pB, pC]
  go_simp
 ·refine wpAnyH_ready (rs := [13]) (by kernel_rfl) (by simp) ?_
  refine Z0i ⟨some 97, .buildSlice 40 1 #[(0, .tmp 96)], _, _, _, none⟩ (.slice (some ⟨w.1.size, 0, none⟩) 1 1) (w.drew.alloc (.cells #[x0, x1, x2, x3, x4, x5, x6, x7] 42)) rfl rfl ?_ (pF _ (.inr rfl)) ?_ AllReadyH.nil
  ·simp (disch := (first | omega | (simp only [size_put]; omega))) only [execOp, eval_put_ne, Z00, h3, pA, pB, pC]
   go_simp
  refine wpAnyH_ready (rs := [14]) (by kernel_rfl) (by simp) ?_
  refine Z0X ⟨some 98, .call { callee := .builtin .append, args := #[.tmp 95, .tmp 97], argTypes := #[40, 40] }, _, _, _, none⟩ rfl rfl (fun K hK => wp_append_lies (w.drew.alloc (.cells #[x0, x1, x2, x3, x4, x5, x6, x7] 42)) (.tmp 95) (.tmp 97) 40 rfl base 42 i0 (.agg #[.int .i64 0, .int .i64 0, .int .i64 0, .int .i64 0, .int .i64 0, .int .i64 0, .int .i64 0, .int .i64 0]) 8 64 Tryz.underlying40 hi.1 hi.2.1 hi.2.2.1 hi.2.2.2 rfl (by decide) (.slice fa bn fc) bn xs ?_ ((pH.drew).alloc _) ⟨w.1.size, 0, none⟩ 1 1 [x0, x1, x2, x3, x4, x5, x6, x7] ?_ (by rfl) (World.news_of_block (cs := #[x0, x1, x2, x3, x4, x5, x6, x7]) (t := 42) (fr := (0, 0)) (heap_alloc_new w.drew _)) pO (by omega) (by unfold maxLen; omega) (by omega) ?_ _ rfl (fun g9 cap9 w9 pJ pE pK pR => hK _ _ (pI w9 pE) ?_)) AllReadyH.nil
  ·simp (disch := (first | omega | (simp only [size_put]; omega))) only [eval_put_ne, Z00, h3, pA, pB, pC]
  ·simp (disch := (first | omega | (simp only [size_put]; omega))) only [eval_put_ne, Z00, h3, pA, pB, pC]
  ·show _ <= (w.drew.alloc _).1.size
   rw [Z6]
   show _ <= w.1.size + 1
   omega
  have pG : w9.1[PB]? = w.1[PB]? := (pE.block PB (by show PB < (w.drew.alloc _).1.size; rw [Z6]; show PB < w.1.size + 1; omega) (fun e => by have := (pH.lt PB e.symm).1; omega)).trans (ZB w.drew _ _ pN)
  have c9 : w9.cell? ⟨PB, u, none⟩ = some (.slice fa bn fc) := (Kak (w := w) pG).trans pL
  have f9 : w9.frozen? ⟨PB, u, none⟩ = false := (Kbj (w := w) pG).trans pM
  refine Z0L 15 99 (.pointer (some ⟨PB, u, none⟩)) rfl hQ (pI w9 pE) ?_ ?_; rotate_left
  refine wpAnyH_ready (rs := [16]) (by kernel_rfl) (by simp) ?_
  refine Z1C ⟨none, .store 40 (.tmp 99) (.tmp 98), _, _, _, none⟩ (w9.setCell ⟨PB, u, none⟩ (.slice (some ⟨g9, 0, none⟩) (bn + 1) cap9)) rfl rfl ?_ (pP w9 pE _) ?_ AllReadyH.nil
  ·simp (disch := (first | omega | (simp only [size_put]; omega))) only [execOp, eval_put_ne, Z00, h3, pA, pB, pC]
   go_simp
  refine wpAnyH_done (by kernel_rfl) ?_ _
  refine pQ _ g9 cap9 w9 ?_ ?_ ?_ pJ pE (pK.imp id (fun h => h.trans (Z6 _ _)))
  ·simp only [size_put]
  ·intro n hn
   rcases hn with hn | hn
   all_goals
    (simp (disch := omega) only [Z0u, eval_put_ne])
  ·simp only [Z0O]
  all_goals first | (intro w' hS; obtain ⟨c0, c1, c2, c3, c4, c5, c6, c7, c8⟩ := hS; simp (disch := (first | omega | (simp only [size_put]; omega))) only [execOp, eval_put_ne, Z00, h3, pA, pB, pC]; first | rfl | (go_simp; done)) | (simp (disch := (first | omega | (simp only [size_put]; omega))) only [execOp, eval_put_ne, Z00, h3, pA, pB, pC]; done) | (simp (disch := (first | omega | (simp only [size_put]; omega))) only [execOp, eval_put_ne, Z00, h3, pA, pB, pC]; go_simp; done)
 ·simp (disch := (first | omega | (simp only [size_put]; omega))) only [execOp, eval_put_ne, Z00, h3, pA, pB, pC]
  go_simp
 ·refine wpAnyH_ready (rs := [11]) (by kernel_rfl) (by simp) ?_
  refine Z0i ⟨some 95, .load 40 (.tmp 94), _, _, _, none⟩ (.slice fa bn fc) (w.drew.alloc (.cells #[x0, x1, x2, x3, x4, x5, x6, x7] 42)) rfl rfl ?_ (pF _ (.inr rfl)) ?_ AllReadyH.nil
  ·simp (disch := (first | omega | (simp only [size_put]; omega))) only [execOp, eval_put_ne, Z00, h3, pA, pB, pC]
   go_simp
  refine wpAnyH_ready (rs := [14]) (by kernel_rfl) (by simp) ?_
  refine Z0X ⟨some 98, .call { callee := .builtin .append, args := #[.tmp 95, .tmp 97], argTypes := #[40, 40] }, _, _, _, none⟩ rfl rfl (fun K hK => wp_append_lies (w.drew.alloc (.cells #[x0, x1, x2, x3, x4, x5, x6, x7] 42)) (.tmp 95) (.tmp 97) 40 rfl base 42 i0 (.agg #[.int .i64 0, .int .i64 0, .int .i64 0, .int .i64 0, .int .i64 0, .int .i64 0, .int .i64 0, .int .i64 0]) 8 64 Tryz.underlying40 hi.1 hi.2.1 hi.2.2.1 hi.2.2.2 rfl (by decide) (.slice fa bn fc) bn xs ?_ ((pH.drew).alloc _) ⟨w.1.size, 0, none⟩ 1 1 [x0, x1, x2, x3, x4, x5, x6, x7] ?_ (by rfl) (World.news_of_block (cs := #[x0, x1, x2, x3, x4, x5, x6, x7]) (t := 42) (fr := (0, 0)) (heap_alloc_new w.drew _)) pO (by omega) (by unfold maxLen; omega) (by omega) ?_ _ rfl (fun g9 cap9 w9 pJ pE pK pR => hK _ _ (pI w9 pE) ?_)) AllReadyH.nil
  ·simp (disch := (first | omega | (simp only [size_put]; omega))) only [eval_put_ne, Z00, h3, pA, pB, pC]
  ·simp (disch := (first | omega | (simp only [size_put]; omega))) only [eval_put_ne, Z00, h3, pA, pB, pC]
  ·show _ <= (w.drew.alloc _).1.size
   rw [Z6]
   show _ <= w.1.size + 1
   omega
  have pG : w9.1[PB]? = w.1[PB]? := (pE.block PB (by show PB < (w.drew.alloc _).1.size; rw [Z6]; show PB < w.1.size + 1; omega) (fun e => by have := (pH.lt PB e.symm).1; omega)).trans (ZB w.drew _ _ pN)
  have c9 : w9.cell? ⟨PB, u, none⟩ = some (.slice fa bn fc) := (Kak (w := w) pG).trans pL
  have f9 : w9.frozen? ⟨PB, u, none⟩ = false := (Kbj (w := w) pG).trans pM
  refine Z0L 15 99 (.pointer (some ⟨PB, u, none⟩)) rfl hQ (pI w9 pE) ?_ ?_; rotate_left
  refine wpAnyH_ready (rs := [16]) (by kernel_rfl) (by simp) ?_
  refine Z1C ⟨none, .store 40 (.tmp 99) (.tmp 98), _, _, _, none⟩ (w9.setCell ⟨PB, u, none⟩ (.slice (some ⟨g9, 0, none⟩) (bn + 1) cap9)) rfl rfl ?_ (pP w9 pE _) ?_ AllReadyH.nil
  ·simp (disch := (first | omega | (simp only [size_put]; omega))) only [execOp, eval_put_ne, Z00, h3, pA, pB, pC]
   go_simp
  refine wpAnyH_done (by kernel_rfl) ?_ _
  refine pQ _ g9 cap9 w9 ?_ ?_ ?_ pJ pE (pK.imp id (fun h => h.trans (Z6 _ _)))
  ·simp only [size_put]
  ·intro n hn
   rcases hn with hn | hn
   all_goals
    (simp (disch := omega) only [Z0u, eval_put_ne])
  ·simp only [Z0O]
  all_goals first | (intro w' hS; obtain ⟨c0, c1, c2, c3, c4, c5, c6, c7, c8⟩ := hS; simp (disch := (first | omega | (simp only [size_put]; omega))) only [execOp, eval_put_ne, Z00, h3, pA, pB, pC]; first | rfl | (go_simp; done)) | (simp (disch := (first | omega | (simp only [size_put]; omega))) only [execOp, eval_put_ne, Z00, h3, pA, pB, pC]; done) | (simp (disch := (first | omega | (simp only [size_put]; omega))) only [execOp, eval_put_ne, Z00, h3, pA, pB, pC]; go_simp; done)
 all_goals first | (intro w' hS; obtain ⟨c0, c1, c2, c3, c4, c5, c6, c7, c8⟩ := hS; simp (disch := (first | omega | (simp only [size_put]; omega))) only [execOp, eval_put_ne, Z00, h3, pA, pB, pC]; first | rfl | (go_simp; done)) | (simp (disch := (first | omega | (simp only [size_put]; omega))) only [execOp, eval_put_ne, Z00, h3, pA, pB, pC]; done) | (simp (disch := (first | omega | (simp only [size_put]; omega))) only [execOp, eval_put_ne, Z00, h3, pA, pB, pC]; go_simp; done)
end Go.Proofs.YtlgajongmkhcnaaGreatDoor
