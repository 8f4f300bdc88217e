import Derived.Test.YtlgajongmkhcnaaGreatDoorQZ
import Derived.Test.YtlgajongmkhcnaaGreatDoorQK
import Derived.Deep.AppendLies
import Derived.Deep.RegionLaw
import Derived.Deep.RegionHeld3
import Derived.Deep.DrawnRows
import Derived.BigRegion
import Derived.Deep.DeepCutAuto
set_option linter.unusedVariables false
set_option linter.unusedSimpArgs false
set_option maxHeartbeats 32000000
namespace Go.Proofs.YtlgajongmkhcnaaGreatDoor
open Go.RowKit Go.Sort
set_option maxRecDepth 100000
theorem Z03 {a : Act} {n : Nat} {v : Value} (h : n < a.tmps.size) : (a.put (some n) v).eval (.tmp n) = v := by
 show (a.tmps.setIfInBounds n v).getD n undef = v
 simp [Array.getD_eq_getD_getElem?, h]
theorem eval_put_ne {a : Act} {n m : Nat} {v : Value} (h : n ≠ m) : (a.put (some n) v).eval (.tmp m) = a.eval (.tmp m) := by
 show (a.tmps.setIfInBounds n v).getD m undef = a.tmps.getD m undef
 simp [Array.getD_eq_getD_getElem?, h]
theorem size_put {a : Act} {d : Option Tmp} {v : Value} : (a.put d v).tmps.size = a.tmps.size := by
 cases d with
 | none => rfl
 | some d => exact Array.size_setIfInBounds
theorem Z1v {a : Act} {d : Option Tmp} {v : Value} : (a.put d v).defers = a.defers := by cases d <;> rfl
theorem Z0W {a : Act} {v : Value} {x : Operand} : (a.put none v).eval x = a.eval x := rfl
theorem Zin {a b : Act} (hs : a.tmps.size = b.tmps.size) (he : ∀ n : Nat, n < b.tmps.size -> a.eval (.tmp n) = b.eval (.tmp n)) (hd : a.defers = b.defers) : a = b := by
 obtain ⟨at', ad⟩ := a
 obtain ⟨bt, bd⟩ := b
 dsimp only at hs hd
 subst hd
 congr 1
 refine Array.ext hs (fun i h1 h2 => ?_)
 have h := he i h2
 have h3 : at'.getD i undef = bt.getD i undef := h
 rw [Array.getD_eq_getD_getElem?, Array.getD_eq_getD_getElem?, Array.getElem?_eq_getElem h1, Array.getElem?_eq_getElem h2] at h3
 exact h3
def Z1W (a a' : Act) : List Nat -> Act
 | [] => a
 | n :: r => (Z1W a a' r).put (some n) (a'.eval (.tmp n))
theorem Z2n (a a' : Act) : ∀ ns, (Z1W a a' ns).tmps.size = a.tmps.size
 | [] => rfl
 | n :: r => by rw [Z1W, size_put, Z2n a a' r]
theorem Z3H (a a' : Act) : ∀ ns, (Z1W a a' ns).defers = a.defers
 | [] => rfl
 | n :: r => by rw [Z1W, Z1v, Z3H a a' r]
theorem Z5n (a a' : Act) : ∀ (ns : List Nat) (n : Nat), n < a.tmps.size -> (n ∉ ns -> a'.eval (.tmp n) = a.eval (.tmp n)) -> (Z1W a a' ns).eval (.tmp n) = a'.eval (.tmp n)
 | [], n, _, h => (h (by simp)).symm
 | m :: r, n, hn, h => by
  by_cases e : m = n
  ·subst e
   rw [Z1W, Z03 (by rw [Z2n]; exact hn)]
  ·rw [Z1W, eval_put_ne e]
   exact Z5n a a' r n hn (fun h2 => h (by simp [h2, Ne.symm e]))
theorem Z4Y {a a' : Act} (ns : List Nat) (hs : a'.tmps.size = a.tmps.size) (he : ∀ n : Nat, n ∉ ns -> a'.eval (.tmp n) = a.eval (.tmp n)) (hd : a'.defers = a.defers) : a' = Z1W a a' ns :=
 Zin (by rw [hs, Z2n]) (fun n hn => (Z5n a a' ns n (by rw [Z2n] at hn; exact hn) (he n)).symm) (by rw [hd, Z3H])
def Z1L (k : Nat) : Code -> Option (Array Oper)
 | .region id ops _ => if id = k then some ops else none
 | .seq a b => match Z1L k a with
  | some o => some o
  | none => Z1L k b
 | .cond _ a b => match Z1L k a with
  | some o => some o
  | none => Z1L k b
 | .block _ c => Z1L k c
 | .loop c => Z1L k c
 | .scope c => Z1L k c
 | _ => none
theorem Z4M {P : Program} {ops ops' : Array Oper} {id : Nat} {Q : Exit -> Act -> World -> Prop} {a : Act} {w : World} (h : ops = ops') (hw : (Code.region id ops' true).wp P Q a w) : (Code.region id ops true).wp P Q a w := h ▸ hw
noncomputable def Zgn : Array Oper := (Tryz.f28.body.bind (Z1L 15)).getD #[]
theorem ZfJ {P : Program} {o : Oper} {a : Act} {w w' : World} {v : Value} {K : Act -> World -> Prop} {Q : Exit -> Act -> World -> Prop} (h : (execOp a.eval o).run P w = .ok (.value v) w') (hK : K (a.put o.dst v) w') : Oper.wp P o a w K Q := by
 unfold Oper.wp
 rw [h]
 exact hK
theorem wp_skip {P : Program} {o : Oper} {a : Act} {w w' : World} {K : Act -> World -> Prop} {Q : Exit -> Act -> World -> Prop} (h : (execOp a.eval o).run P w = .ok .skip w') (hK : K (a.put o.dst undef) w') : Oper.wp P o a w K Q := by
 unfold Oper.wp
 rw [h]
 exact hK
section
variable {P : Program} {md : Region.Mode} {ops : Array Oper} {Q : Exit -> Act -> World -> Prop} {S : World -> Prop} {fuel : Nat} {listed : Array Bool} {a : Act} {w : World} {i : Nat} {rs : List Nat}
theorem Z0q (o : Oper) (v : Value) (w' : World) (ho : ops[i]? = some o) (hg : o.guard = none) (hr : (execOp a.eval o).run P w = .ok (.value v) w') (hS : S w') (hn : wpAnyH P md ops Q S fuel (listed.setIfInBounds i true) (a.put o.dst v) w')
 (hs : AllReadyH P md ops Q S fuel listed a w rs) : AllReadyH P md ops Q S fuel listed a w (i :: rs) := AllReadyH.cons ho (fun K' hK => by
 rw [if_pos (by simp [Region.wanted, hg])]
 exact ZfJ hr (hK.out _ _ hS (fun _ => hn))) hs
theorem Z1E (o : Oper) (w' : World) (ho : ops[i]? = some o) (hg : o.guard = none) (hr : (execOp a.eval o).run P w = .ok .skip w') (hS : S w') (hn : wpAnyH P md ops Q S fuel (listed.setIfInBounds i true) (a.put o.dst undef) w')
 (hs : AllReadyH P md ops Q S fuel listed a w rs) : AllReadyH P md ops Q S fuel listed a w (i :: rs) := AllReadyH.cons ho (fun K' hK => by
 rw [if_pos (by simp [Region.wanted, hg])]
 exact wp_skip hr (hK.out _ _ hS (fun _ => hn))) hs
theorem Z2a (o : Oper) (ho : ops[i]? = some o) (hg : o.guard = none)
 (h : ∀ K' : Act -> World -> Prop, (∀ a w, S w -> wpAnyH P md ops Q S fuel (listed.setIfInBounds i true) a w -> K' a w) -> Oper.wp P o a w K' Q)
 (hs : AllReadyH P md ops Q S fuel listed a w rs) : AllReadyH P md ops Q S fuel listed a w (i :: rs) := AllReadyH.cons ho (fun K' hK => by
 rw [if_pos (by simp [Region.wanted, hg])]
 exact h K' (fun a w hS hn => hK.out a w hS (fun _ => hn))) hs
end
theorem Z0Z {P : Program} {md : Region.Mode} {ops : Array Oper} {Q : Exit -> Act -> World -> Prop} {S : World -> Prop} {fuel : Nat} {listed : Array Bool} {a : Act} {w : World} (i d : Nat) (v : Value) {x1 x2 x3 x4 x5} (hi : ops[i]? = some ⟨some d, x1, x2, x3, x4, x5⟩) (hQ : ∀ c (a : Act) (d : Nat) (v : Value) w, Q (.panic c) (a.put (some d) v) w -> Q (.panic c) a w) (hS : S w)
 (hy : ∀ w', S w' -> (execOp a.eval ⟨some d, x1, x2, x3, x4, x5⟩).run P w' = .ok (.value v) w') (h : wpAnyH P md ops Q S fuel (listed.setIfInBounds i true) (a.put (some d) v) w)
 (hw : Region.wanted ⟨some d, x1, x2, x3, x4, x5⟩ (yielded ops a.tmps) = true := by kernel_rfl) (hs : Region.noSelect ops = true := by kernel_rfl) (hf : Region.free md ops listed i = true := by kernel_rfl) (hr : (Region.ready md ops listed).contains i = true := by kernel_rfl) : wpAnyH P md ops Q S (fuel + 1) listed a w :=
 wpAnyH_take hi hs hf hr (fun _ _ _ h => hQ _ _ _ _ _ h) (Or.inl ⟨hw, hy⟩) hS h
set_option linter.unusedSimpArgs false in
theorem Zjr (a : Act) (w : World) (Q : Exit -> Act -> World -> Prop) {gz oz zl cn PB L k u LB bn fc : Nat} {fa : Option Addr} {x0 x1 x2 x3 x4 x5 x6 x7 : Value} (hsz : 100 <= a.tmps.size) (hQ : ∀ c (a : Act) (d : Nat) (v : Value) w, Q (.panic c) (a.put (some d) v) w -> Q (.panic c) a w)
 (h3 : a.eval (.tmp 3) = .slice (some ⟨gz, oz, none⟩) zl cn) (h16 : a.eval (.tmp 16) = .slice (some ⟨PB, 0, none⟩) L L) (h17 : a.eval (.tmp 17) = .int .i64 k) (h19 : a.eval (.tmp 19) = .pointer (some ⟨LB, 0, none⟩)) (hk : k < zl) (hu : u < L)
 (hS0 : ∀ w' : World, (w' = w.drew \/ w' = w.drew.alloc (.cells #[x0, x1, x2, x3, x4, x5, x6, x7] 42)) -> w'.cell? ⟨gz, oz + k, none⟩ = some (.int .i64 u) /\ w'.cell? ⟨LB, 0, none⟩ = some x0 /\ w'.cell? ⟨LB, 1, none⟩ = some x1 /\ w'.cell? ⟨LB, 2, none⟩ = some x2 /\ w'.cell? ⟨LB, 3, none⟩ = some x3 /\ w'.cell? ⟨LB, 4, none⟩ = some x4 /\ w'.cell? ⟨LB, 5, none⟩ = some x5 /\ w'.cell? ⟨LB, 6, none⟩ = some x6 /\ w'.cell? ⟨LB, 7, none⟩ = some x7) (hcu : w.cell? ⟨PB, u, none⟩ = some (.slice fa bn fc)) (hfz : w.frozen? ⟨PB, u, none⟩ = false) (hPB : PB < w.1.size)
 (hone : ∀ v ∈ [x0, x1, x2, x3, x4, x5, x6, x7], v.oneCell' = true) {base : Nat} {xs : List Value} (hown : w.ownsRow base 42 8 (.slice fa bn fc) bn xs) (hbase : base <= w.1.size) (hPBb : PB < base) (hbn : bn <= 100000)
 (hkeep : ∀ w9 : World, (w.drew.alloc (.cells #[x0, x1, x2, x3, x4, x5, x6, x7] 42)).grownBy w9 (Value.slice fa bn fc).ownBlock -> w9.cell? ⟨gz, oz + k, none⟩ = some (.int .i64 u) /\ w9.cell? ⟨LB, 0, none⟩ = some x0 /\ w9.cell? ⟨LB, 1, none⟩ = some x1 /\ w9.cell? ⟨LB, 2, none⟩ = some x2 /\ w9.cell? ⟨LB, 3, none⟩ = some x3 /\ w9.cell? ⟨LB, 4, none⟩ = some x4 /\ w9.cell? ⟨LB, 5, none⟩ = some x5 /\ w9.cell? ⟨LB, 6, none⟩ = some x6 /\ w9.cell? ⟨LB, 7, none⟩ = some x7)
 (hkeep2 : ∀ w9 : World, (w.drew.alloc (.cells #[x0, x1, x2, x3, x4, x5, x6, x7] 42)).grownBy w9 (Value.slice fa bn fc).ownBlock -> ∀ x, (w9.setCell ⟨PB, u, none⟩ x).cell? ⟨gz, oz + k, none⟩ = some (.int .i64 u) /\ (w9.setCell ⟨PB, u, none⟩ x).cell? ⟨LB, 0, none⟩ = some x0 /\ (w9.setCell ⟨PB, u, none⟩ x).cell? ⟨LB, 1, none⟩ = some x1 /\ (w9.setCell ⟨PB, u, none⟩ x).cell? ⟨LB, 2, none⟩ = some x2 /\ (w9.setCell ⟨PB, u, none⟩ x).cell? ⟨LB, 3, none⟩ = some x3 /\ (w9.setCell ⟨PB, u, none⟩ x).cell? ⟨LB, 4, none⟩ = some x4 /\ (w9.setCell ⟨PB, u, none⟩ x).cell? ⟨LB, 5, none⟩ = some x5 /\ (w9.setCell ⟨PB, u, none⟩ x).cell? ⟨LB, 6, none⟩ = some x6 /\ (w9.setCell ⟨PB, u, none⟩ x).cell? ⟨LB, 7, none⟩ = some x7)
 (hend : ∀ a' g9 cap9 (w9 : World), a'.tmps.size = a.tmps.size -> (∀ n : Nat, n < 84 \/ 100 <= n -> a'.eval (.tmp n) = a.eval (.tmp n)) -> a'.defers = a.defers -> w9.ownsRow base 42 8 (.slice (some ⟨g9, 0, none⟩) (bn + 1) cap9) (bn + 1) (xs ++ [x0, x1, x2, x3, x4, x5, x6, x7]) -> (w.drew.alloc (.cells #[x0, x1, x2, x3, x4, x5, x6, x7] 42)).grownBy w9 (Value.slice fa bn fc).ownBlock -> ((Value.slice fa bn fc).ownBlock = some g9 \/ g9 = w.1.size + 1) -> Q .normal a' (w9.setCell ⟨PB, u, none⟩ (.slice (some ⟨g9, 0, none⟩) (bn + 1) cap9))) :
 (Code.region 15 Zgn true).wp Tryz.prog Q a w := by
 have hs84 : 84 < a.tmps.size := (by omega); have hs85 : 85 < a.tmps.size := (by omega); have hs86 : 86 < a.tmps.size := (by omega); have hs87 : 87 < a.tmps.size := (by omega); have hs88 : 88 < a.tmps.size := (by omega); have hs89 : 89 < a.tmps.size := (by omega); have hs90 : 90 < a.tmps.size := (by omega); have hs91 : 91 < a.tmps.size := (by omega); have hs92 : 92 < a.tmps.size := (by omega); have hs93 : 93 < a.tmps.size := (by omega); have hs94 : 94 < a.tmps.size := (by omega); have hs95 : 95 < a.tmps.size := (by omega); have hs96 : 96 < a.tmps.size := (by omega); have hs97 : 97 < a.tmps.size := (by omega); have hs98 : 98 < a.tmps.size := (by omega); have hs99 : 99 < a.tmps.size := (by omega)
 conv =>
  pattern Zgn
  unfold Zgn
  whnf
 refine wp_region_held_drew (S := fun w' => w'.cell? ⟨gz, oz + k, none⟩ = some (.int .i64 u) /\ w'.cell? ⟨LB, 0, none⟩ = some x0 /\ w'.cell? ⟨LB, 1, none⟩ = some x1 /\ w'.cell? ⟨LB, 2, none⟩ = some x2 /\ w'.cell? ⟨LB, 3, none⟩ = some x3 /\ w'.cell? ⟨LB, 4, none⟩ = some x4 /\ w'.cell? ⟨LB, 5, none⟩ = some x5 /\ w'.cell? ⟨LB, 6, none⟩ = some x6 /\ w'.cell? ⟨LB, 7, none⟩ = some x7) (by kernel_rfl) (hS0 _ (.inl rfl)) (fun hHeld => ?_)
 refine Z0Z 0 84 (.slice (some ⟨PB, 0, none⟩) L L) rfl hQ hHeld ?_ ?_; rotate_left
 refine Z0Z 1 85 (.slice (some ⟨gz, oz, none⟩) zl cn) rfl hQ hHeld ?_ ?_; rotate_left
 refine Z0Z 2 86 (.int .i64 k) rfl hQ hHeld ?_ ?_; rotate_left
 refine Z0Z 3 87 (.pointer (some ⟨gz, oz + k, none⟩)) rfl hQ hHeld ?_ ?_; rotate_left
 refine Z0Z 4 88 (.int .i64 u) rfl hQ hHeld ?_ ?_; rotate_left
 refine Z0Z 5 89 (.slice (some ⟨PB, 0, none⟩) L L) rfl hQ hHeld ?_ ?_; rotate_left
 refine Z0Z 6 90 (.slice (some ⟨gz, oz, none⟩) zl cn) rfl hQ hHeld ?_ ?_; rotate_left
 refine Z0Z 7 91 (.int .i64 k) rfl hQ hHeld ?_ ?_; rotate_left
 refine Z0Z 8 92 (.pointer (some ⟨gz, oz + k, none⟩)) rfl hQ hHeld ?_ ?_; rotate_left
 refine Z0Z 9 93 (.int .i64 u) rfl hQ hHeld ?_ ?_; rotate_left
 refine Z0Z 10 94 (.pointer (some ⟨PB, u, none⟩)) rfl hQ hHeld ?_ ?_; rotate_left
 refine Z0Z 12 96 (.agg #[x0, x1, x2, x3, x4, x5, x6, x7]) rfl hQ hHeld ?_ ?_; rotate_left
 obtain ⟨i0, hi⟩ := info_parts Tryz.infoLine
 refine wpAnyH_ready (rs := [11, 13]) (by kernel_rfl) (by simp) ?_
 refine Z0q ⟨some 95, .load 40 (.tmp 94), _, _, _, none⟩ (.slice fa bn fc) w.drew rfl rfl ?_ (hS0 _ (.inl rfl)) ?_ (Z0q ⟨some 97, .buildSlice 40 1 #[(0, .tmp 96)], _, _, _, none⟩ (.slice (some ⟨w.1.size, 0, none⟩) 1 1) (w.drew.alloc (.cells #[x0, x1, x2, x3, x4, x5, x6, x7] 42)) rfl rfl ?_ (hS0 _ (.inr rfl)) ?_ AllReadyH.nil)
 ·simp (disch := (first | omega | (simp only [size_put]; omega))) only [execOp, eval_put_ne, Z03, h3, h16, h17, h19]
  go_simp
 ·refine wpAnyH_ready (rs := [13]) (by kernel_rfl) (by simp) ?_
  refine Z0q ⟨some 97, .buildSlice 40 1 #[(0, .tmp 96)], _, _, _, none⟩ (.slice (some ⟨w.1.size, 0, none⟩) 1 1) (w.drew.alloc (.cells #[x0, x1, x2, x3, x4, x5, x6, x7] 42)) rfl rfl ?_ (hS0 _ (.inr rfl)) ?_ AllReadyH.nil
  ·simp (disch := (first | omega | (simp only [size_put]; omega))) only [execOp, eval_put_ne, Z03, h3, h16, h17, h19]
   go_simp
  refine wpAnyH_ready (rs := [14]) (by kernel_rfl) (by simp) ?_
  refine Z2a ⟨some 98, .call { callee := .builtin .append, args := #[.tmp 95, .tmp 97], argTypes := #[40, 40] }, _, _, _, none⟩ rfl rfl (fun K hK => wp_append_lies (w.drew.alloc (.cells #[x0, x1, x2, x3, x4, x5, x6, x7] 42)) (.tmp 95) (.tmp 97) 40 rfl base 42 i0 (.agg #[.int .i64 0, .int .i64 0, .int .i64 0, .int .i64 0, .int .i64 0, .int .i64 0, .int .i64 0, .int .i64 0]) 8 64 Tryz.underlying40 hi.1 hi.2.1 hi.2.2.1 hi.2.2.2 rfl (by decide) (.slice fa bn fc) bn xs ?_ ((hown.drew).alloc _) ⟨w.1.size, 0, none⟩ 1 1 [x0, x1, x2, x3, x4, x5, x6, x7] ?_ (by rfl) (World.news_of_block (cs := #[x0, x1, x2, x3, x4, x5, x6, x7]) (t := 42) (fr := (0, 0)) (heap_alloc_new w.drew _)) hone (by omega) (by unfold maxLen; omega) (by omega) ?_ _ rfl (fun g9 cap9 w9 hown9 hgrow hat9 hlt9 => hK _ _ (hkeep w9 hgrow) ?_)) AllReadyH.nil
  ·simp (disch := (first | omega | (simp only [size_put]; omega))) only [eval_put_ne, Z03, h3, h16, h17, h19]
  ·simp (disch := (first | omega | (simp only [size_put]; omega))) only [eval_put_ne, Z03, h3, h16, h17, h19]
  ·show _ <= (w.drew.alloc _).1.size
   rw [Z6]
   show _ <= w.1.size + 1
   omega
  have hb9 : w9.1[PB]? = w.1[PB]? := (hgrow.block PB (by show PB < (w.drew.alloc _).1.size; rw [Z6]; show PB < w.1.size + 1; omega) (fun e => by have := (hown.lt PB e.symm).1; omega)).trans (ZB w.drew _ _ hPB)
  have c9 : w9.cell? ⟨PB, u, none⟩ = some (.slice fa bn fc) := (World.cell?_of_block (w := w) hb9).trans hcu
  have f9 : w9.frozen? ⟨PB, u, none⟩ = false := (World.frozen?_of_block (w := w) hb9).trans hfz
  refine Z0Z 15 99 (.pointer (some ⟨PB, u, none⟩)) rfl hQ (hkeep w9 hgrow) ?_ ?_; rotate_left
  refine wpAnyH_ready (rs := [16]) (by kernel_rfl) (by simp) ?_
  refine Z1E ⟨none, .store 40 (.tmp 99) (.tmp 98), _, _, _, none⟩ (w9.setCell ⟨PB, u, none⟩ (.slice (some ⟨g9, 0, none⟩) (bn + 1) cap9)) rfl rfl ?_ (hkeep2 w9 hgrow _) ?_ AllReadyH.nil
  ·simp (disch := (first | omega | (simp only [size_put]; omega))) only [execOp, eval_put_ne, Z03, h3, h16, h17, h19]
   go_simp
  refine wpAnyH_done (by kernel_rfl) ?_ _
  refine hend _ g9 cap9 w9 ?_ ?_ ?_ hown9 hgrow (hat9.imp id (fun h => h.trans (Z6 _ _)))
  ·simp only [size_put]
  ·intro n hn
   rcases hn with hn | hn
   all_goals
    (simp (disch := omega) only [Z0W, eval_put_ne])
  ·simp only [Z1v]
  all_goals first | (intro w' hS; obtain ⟨c0, c1, c2, c3, c4, c5, c6, c7, c8⟩ := hS; simp (disch := (first | omega | (simp only [size_put]; omega))) only [execOp, eval_put_ne, Z03, h3, h16, h17, h19]; first | rfl | (go_simp; done)) | (simp (disch := (first | omega | (simp only [size_put]; omega))) only [execOp, eval_put_ne, Z03, h3, h16, h17, h19]; done) | (simp (disch := (first | omega | (simp only [size_put]; omega))) only [execOp, eval_put_ne, Z03, h3, h16, h17, h19]; go_simp; done)
 ·simp (disch := (first | omega | (simp only [size_put]; omega))) only [execOp, eval_put_ne, Z03, h3, h16, h17, h19]
  go_simp
 ·refine wpAnyH_ready (rs := [11]) (by kernel_rfl) (by simp) ?_
  refine Z0q ⟨some 95, .load 40 (.tmp 94), _, _, _, none⟩ (.slice fa bn fc) (w.drew.alloc (.cells #[x0, x1, x2, x3, x4, x5, x6, x7] 42)) rfl rfl ?_ (hS0 _ (.inr rfl)) ?_ AllReadyH.nil
  ·simp (disch := (first | omega | (simp only [size_put]; omega))) only [execOp, eval_put_ne, Z03, h3, h16, h17, h19]
   go_simp
  refine wpAnyH_ready (rs := [14]) (by kernel_rfl) (by simp) ?_
  refine Z2a ⟨some 98, .call { callee := .builtin .append, args := #[.tmp 95, .tmp 97], argTypes := #[40, 40] }, _, _, _, none⟩ rfl rfl (fun K hK => wp_append_lies (w.drew.alloc (.cells #[x0, x1, x2, x3, x4, x5, x6, x7] 42)) (.tmp 95) (.tmp 97) 40 rfl base 42 i0 (.agg #[.int .i64 0, .int .i64 0, .int .i64 0, .int .i64 0, .int .i64 0, .int .i64 0, .int .i64 0, .int .i64 0]) 8 64 Tryz.underlying40 hi.1 hi.2.1 hi.2.2.1 hi.2.2.2 rfl (by decide) (.slice fa bn fc) bn xs ?_ ((hown.drew).alloc _) ⟨w.1.size, 0, none⟩ 1 1 [x0, x1, x2, x3, x4, x5, x6, x7] ?_ (by rfl) (World.news_of_block (cs := #[x0, x1, x2, x3, x4, x5, x6, x7]) (t := 42) (fr := (0, 0)) (heap_alloc_new w.drew _)) hone (by omega) (by unfold maxLen; omega) (by omega) ?_ _ rfl (fun g9 cap9 w9 hown9 hgrow hat9 hlt9 => hK _ _ (hkeep w9 hgrow) ?_)) AllReadyH.nil
  ·simp (disch := (first | omega | (simp only [size_put]; omega))) only [eval_put_ne, Z03, h3, h16, h17, h19]
  ·simp (disch := (first | omega | (simp only [size_put]; omega))) only [eval_put_ne, Z03, h3, h16, h17, h19]
  ·show _ <= (w.drew.alloc _).1.size
   rw [Z6]
   show _ <= w.1.size + 1
   omega
  have hb9 : w9.1[PB]? = w.1[PB]? := (hgrow.block PB (by show PB < (w.drew.alloc _).1.size; rw [Z6]; show PB < w.1.size + 1; omega) (fun e => by have := (hown.lt PB e.symm).1; omega)).trans (ZB w.drew _ _ hPB)
  have c9 : w9.cell? ⟨PB, u, none⟩ = some (.slice fa bn fc) := (World.cell?_of_block (w := w) hb9).trans hcu
  have f9 : w9.frozen? ⟨PB, u, none⟩ = false := (World.frozen?_of_block (w := w) hb9).trans hfz
  refine Z0Z 15 99 (.pointer (some ⟨PB, u, none⟩)) rfl hQ (hkeep w9 hgrow) ?_ ?_; rotate_left
  refine wpAnyH_ready (rs := [16]) (by kernel_rfl) (by simp) ?_
  refine Z1E ⟨none, .store 40 (.tmp 99) (.tmp 98), _, _, _, none⟩ (w9.setCell ⟨PB, u, none⟩ (.slice (some ⟨g9, 0, none⟩) (bn + 1) cap9)) rfl rfl ?_ (hkeep2 w9 hgrow _) ?_ AllReadyH.nil
  ·simp (disch := (first | omega | (simp only [size_put]; omega))) only [execOp, eval_put_ne, Z03, h3, h16, h17, h19]
   go_simp
  refine wpAnyH_done (by kernel_rfl) ?_ _
  refine hend _ g9 cap9 w9 ?_ ?_ ?_ hown9 hgrow (hat9.imp id (fun h => h.trans (Z6 _ _)))
  ·simp only [size_put]
  ·intro n hn
   rcases hn with hn | hn
   all_goals
    (simp (disch := omega) only [Z0W, eval_put_ne])
  ·simp only [Z1v]
  all_goals first | (intro w' hS; obtain ⟨c0, c1, c2, c3, c4, c5, c6, c7, c8⟩ := hS; simp (disch := (first | omega | (simp only [size_put]; omega))) only [execOp, eval_put_ne, Z03, h3, h16, h17, h19]; first | rfl | (go_simp; done)) | (simp (disch := (first | omega | (simp only [size_put]; omega))) only [execOp, eval_put_ne, Z03, h3, h16, h17, h19]; done) | (simp (disch := (first | omega | (simp only [size_put]; omega))) only [execOp, eval_put_ne, Z03, h3, h16, h17, h19]; go_simp; done)
 all_goals first | (intro w' hS; obtain ⟨c0, c1, c2, c3, c4, c5, c6, c7, c8⟩ := hS; simp (disch := (first | omega | (simp only [size_put]; omega))) only [execOp, eval_put_ne, Z03, h3, h16, h17, h19]; first | rfl | (go_simp; done)) | (simp (disch := (first | omega | (simp only [size_put]; omega))) only [execOp, eval_put_ne, Z03, h3, h16, h17, h19]; done) | (simp (disch := (first | omega | (simp only [size_put]; omega))) only [execOp, eval_put_ne, Z03, h3, h16, h17, h19]; go_simp; done)
abbrev ZdT (w : World) (g : Nat) (b1 b2 b3 b4 b5 b6 b7 b8 : Value) : World := ((((((((w.setCell ⟨g, 1, none⟩ b1).setCell ⟨g, 2, none⟩ b2).setCell ⟨g, 3, none⟩ b3).setCell ⟨g, 4, none⟩ b4).setCell ⟨g, 5, none⟩ b5).setCell ⟨g, 6, none⟩ b6).setCell ⟨g, 7, none⟩ b7).setCell ⟨g, 8, none⟩ b8)
theorem Zjq {w : World} {g : Nat} {a0 a1 a2 a3 a4 a5 a6 a7 a8 a9 a10 a11 b1 b2 b3 b4 b5 b6 b7 b8 : Value} {t : TypeId} {fr : Nat × Nat} (h : w.1[g]? = some (.cells #[a0, a1, a2, a3, a4, a5, a6, a7, a8, a9, a10, a11] t fr)) :
 (ZdT w g b1 b2 b3 b4 b5 b6 b7 b8).1[g]? = some (.cells #[a0, b1, b2, b3, b4, b5, b6, b7, b8, a9, a10, a11] t fr) := by
 simp [ZdT, World.setCell, Array.getElem?_modify, h]
theorem ZfS (w : World) (g : Nat) (b1 b2 b3 b4 b5 b6 b7 b8 : Value) : w.grownBy (ZdT w g b1 b2 b3 b4 b5 b6 b7 b8) (some g) :=
 ((((((((Z07 w ⟨g, 1, none⟩ b1).trans (Z07 _ ⟨g, 2, none⟩ b2)).trans (Z07 _ ⟨g, 3, none⟩ b3)).trans (Z07 _ ⟨g, 4, none⟩ b4)).trans (Z07 _ ⟨g, 5, none⟩ b5)).trans (Z07 _ ⟨g, 6, none⟩ b6)).trans (Z07 _ ⟨g, 7, none⟩ b7)).trans (Z07 _ ⟨g, 8, none⟩ b8))
theorem Z8O {w : World} {b j b' j' : Nat} {v : Value} (h : b ≠ b') : (w.setCell ⟨b, j, none⟩ v).cell? ⟨b', j', none⟩ = w.cell? ⟨b', j', none⟩ := World.cell?_setCell_far _ _ _ _ h
theorem Zf9 {w : World} {a : Addr} : w.drew.cell? a = w.cell? a := rfl
theorem Zjz {a b : World} {r : Option Nat} (h : a.grownBy b r) : a.grownBy b.drew r := ⟨h.os, h.tape, h.output, h.size, h.block⟩
abbrev ZhD (w : World) (g : Nat) (b9 b10 b11 : Value) : World := ((w.setCell ⟨g, 9, none⟩ b9).setCell ⟨g, 10, none⟩ b10).setCell ⟨g, 11, none⟩ b11
theorem Zjo {w : World} {g : Nat} {a0 a1 a2 a3 a4 a5 a6 a7 a8 a9 a10 a11 b9 b10 b11 : Value} {t : TypeId} {fr : Nat × Nat} (h : w.1[g]? = some (.cells #[a0, a1, a2, a3, a4, a5, a6, a7, a8, a9, a10, a11] t fr)) :
 (ZhD w g b9 b10 b11).1[g]? = some (.cells #[a0, a1, a2, a3, a4, a5, a6, a7, a8, b9, b10, b11] t fr) := by
 simp [ZhD, World.setCell, Array.getElem?_modify, h]
theorem ZhE (w : World) (g : Nat) (b9 b10 b11 : Value) : w.grownBy (ZhD w g b9 b10 b11).drew (some g) :=
 Zjz (((Z07 w ⟨g, 9, none⟩ b9).trans (Z07 _ ⟨g, 10, none⟩ b10)).trans (Z07 _ ⟨g, 11, none⟩ b11))
theorem Zbz {ls : List Lev} {m : Mai} {zs : List Int} {bar : Int} {B R : Nat -> Int} {vr vz vp vl vn vb vt vc : Value} {nb nt nc : Nat} (w : World)
 (hrp : RdPces w vp m.ps) (hr : RdLevs w vl ls) (hn : RdInts w vn zs) (hvr : ∃ a n c, vr = .slice a n c) (hvz : ∃ a n c, vz = .slice a n c) (hvb : ∃ a c, vb = .slice a nb c) (hvt : ∃ a c, vt = .slice a nt c) (hvc : ∃ a c, vc = .slice a nc c)
 (hnl : m.ps.length <= 2000) (hl6 : 1 <= ls.length /\ ls.length <= 6) (hzl : zs.length = m.ps.length) (hzs : ∀ x ∈ zs, 0 <= x /\ x < (ls.length : Int)) (hb3 : nb <= 100000 /\ nt <= 100000 /\ nc <= 100000)
 (hin : ∀ i, i < m.ps.length -> LnIn 1000000 (Z38 m bar B R ls zs i))
 (hpo : ∀ W, Below w.1.size w W -> Calls Tryz.prog 13 #[.agg #[vr, vz], vl, Z22 m vp, vn] W fun e w' => ∃ g, e = .returned (.tuple #[.slice (some ⟨g, 0, none⟩) m.ps.length m.ps.length, .int .i64 0]) /\ Below W.1.size W w' /\ W.1.size <= g /\
  w'.ownsRow W.1.size 3 1 (.slice (some ⟨g, 0, none⟩) m.ps.length m.ps.length) m.ps.length ((List.range m.ps.length).map (fun i => Value.int .i64 (R i))))
 (hba : ∀ W, Below w.1.size w W -> Calls Tryz.prog 35 #[.agg #[vr, vz], Z22 m vp] W fun e w' => ∃ g, e = .returned (.tuple #[.slice (some ⟨g, 0, none⟩) m.ps.length m.ps.length, .int .i64 0]) /\ Below W.1.size W w' /\ W.1.size <= g /\
  w'.ownsRow W.1.size 3 1 (.slice (some ⟨g, 0, none⟩) m.ps.length m.ps.length) m.ps.length ((List.range m.ps.length).map (fun i => Value.int .i64 (B i))))
 (hbr : ∀ W, Below w.1.size w W -> Calls Tryz.prog 66 #[.agg #[vr, vz], .int .u8 m.cls] W fun e w' => e = .returned (.int .i64 bar) /\ Below W.1.size W w') :
 Calls Tryz.prog 28 #[.agg #[vr, vz], vl, Z22 m vp, vn, .agg #[vb, vt, vc]] w fun e w' => ∃ v, e = .returned (.tuple #[Z9B (Z6t zs (Z38 m bar B R ls zs) m.ps.length ls.length nb nt nc) v, .int .i64 0]) /\ Below w.1.size w w' /\
  OwnsLn w' w.1.size v (Z6t zs (Z38 m bar B R ls zs) m.ps.length ls.length nb nt nc).lines := by
 obtain ⟨ar, nr, cr, rfl⟩ := hvr
 obtain ⟨az, nz, cz, rfl⟩ := hvz
 obtain ⟨ab, cb, rfl⟩ := hvb
 obtain ⟨at', ct, rfl⟩ := hvt
 obtain ⟨ac, cc, rfl⟩ := hvc
 obtain ⟨ap, cp, rfl, hpc⟩ := hrp
 obtain ⟨al, cl, rfl, hlc⟩ := hr
 obtain ⟨an, cn, rfl, hnc⟩ := hn
 have HPC := Z0 hpc
 have HLC := Z0 hlc
 have HNC := Z0 hnc
 have HZS := Z0 hzs
 have HZL := Z0 hzl
 have HIN := Z0 hin
 have HPO := Z0 hpo
 have HBA := Z0 hba
 have HBR := Z0 hbr
 obtain ⟨t1, t2, t3, t4, t5, t6⟩ := Z4B (w := w) (A := .cells #[.slice ar nr cr, .slice az nz cz] 29) (B := .cells #[.int .u8 m.cls, .int .u8 m.ctr, .string m.origin, .slice ap m.ps.length cp] 34) (C := .cells #[.slice ab nb cb, .slice at' nt ct, .slice ac nc cc] 52) (D := ZfH) rfl
 unfold ZfH at t1 t2 t3 t4 t5 t6
 obtain ⟨W0, hW0⟩ : ∃ W0, W0 = ((((w.alloc (.cells #[.slice ar nr cr, .slice az nz cz] 29)).alloc (.cells #[.int .u8 m.cls, .int .u8 m.ctr, .string m.origin, .slice ap m.ps.length cp] 34)).alloc (.cells #[.slice ab nb cb, .slice at' nt ct, .slice ac nc cc] 52)).alloc (.cells #[.slice none 0 0, .int .i64 0, .int .i64 0, .int .i64 0, .int .i64 0, .int .i64 0, .int .i64 0, .int .i64 0, .int .i64 0, .int .i64 0, .int .i64 0, .int .i64 0] 44)) := ⟨_, rfl⟩
 rw [<- hW0] at t1 t2 t3 t4 t5 t6
 have hmk := fun W => run_make_row' (P := Tryz.prog) 157 40 (.slice none 0 0) 24 Tryz.underlying157 Tryz.infoSL rfl .i64 .i64 ls.length (by omega) (by omega) W
 clear hpc hlc hnc hzs hzl hin hpo hba hbr
 unfold Z22 at HPO HBA ⊢
 go_enter Tryz.func28, Tryz.ntmps28
 go_wp2_with (first
  | (go_at_call 66; refine (HBR.out _ k5).mono ?_; rintro e w3 ⟨rfl, hb3'⟩; have l2 := (hb3'.block _ (by omega)).trans k2; have l3 := (hb3'.block _ (by omega)).trans k3; have l4 := (hb3'.block _ (by omega)).trans k4; have l5 := Z00 k5 k5.size hb3'; have l6 : w.1.size + 4 <= w3.1.size := (by have := hb3'.size; omega); have own1 := own1'.kept (Z0a hb3') (Classical.em _); have own2 := hown2.kept (Z0a hb3') (Classical.em _); have hw23 := hb3'.size; clear hb3' k1 k2 k3 k4 k5 own1' hown2 z10 z11 z20; have x23 := cell_of_row _ _ 3 _ _ _ l2; have hlx : w.1.size + 1 < w3.1.size := (by omega); have hmk3 := hmk w3)
  | (go_at_call 35; refine (HBA.out _ j5).mono ?_; rintro e w2 ⟨G2, rfl, hb2, hG2, hown2⟩; have k1 := (hb2.block _ (by omega)).trans j1; have k2 := (hb2.block _ (by omega)).trans j2; have k3 := (hb2.block _ (by omega)).trans j3; have k4 := (hb2.block _ (by omega)).trans j4; have k5 := Z00 j5 j5.size hb2; have k6 : w.1.size + 4 <= w2.1.size := (by have := hb2.size; omega); have own1' := hown1.kept (Z0a hb2) (Classical.em _); have hw12 := hb2.size; clear hb2 j1 j2 j3 j4 j5 hown1 y10 y11 y20 y21 y22 y23; have z10 := cell_of_row _ _ 0 _ _ _ k1; have z11 := cell_of_row _ _ 1 _ _ _ k1; have z20 := cell_of_row _ _ 0 _ _ _ k2)
  | (go_at_call 13; rw [<- hW0]; refine (HPO.out _ t6).mono ?_; rintro e w1 ⟨G1, rfl, hb1, hG1, hown1⟩; have j1 := (hb1.block _ (by omega)).trans t1; have j2 := (hb1.block _ (by omega)).trans t2; have j3 := (hb1.block _ (by omega)).trans t3; have j4 := (hb1.block _ (by omega)).trans t4; have j5 := Z00 t6 t6.size hb1; have j6 : w.1.size + 4 <= w1.1.size := (by have := hb1.size; omega); clear hb1 t1 t2 t3 t4; have y10 := cell_of_row _ _ 0 _ _ _ j1; have y11 := cell_of_row _ _ 1 _ _ _ j1; have y20 := cell_of_row _ _ 0 _ _ _ j2; have y21 := cell_of_row _ _ 1 _ _ _ j2; have y22 := cell_of_row _ _ 2 _ _ _ j2; have y23 := cell_of_row _ _ 3 _ _ _ j2))
 have HOW1 := Z0 own1
 have HOW2 := Z0 own2
 have HL3 := Z0 l3
 have HL4 := Z0 l4
 have HL5 := Z0 l5
 have hG1s := (own1.lt G1 rfl).2
 have hG2s := (own2.lt G2 rfl).2
 have hw33 : Below w3.1.size w3 (w3.alloc (.cells (madeCells #[.slice none 0 0] ls.length) 40)) := (Z9 _ w3).alloc (Z1 _) _
 have HW33 := Z0 hw33
 have hF0 : LnF (w3.alloc (.cells (madeCells #[.slice none 0 0] ls.length) 40)) (w3.1.size + 1) w3.1.size ls.length (Z0P zs (Z38 m bar B R ls zs) 0) (fun _ => .slice none 0 0) := LnF.nil (World.rowIs_made w3 _ _ _)
 have HF0 := Z0 hF0
 clear own1 own2 l2 l3 l4 l5 x23 hmk3 hmk hw33 hF0 HPO HBA HBR k6 j6 t5 t6 hW0 hG1 hG2
 go_loopw [55] (fun i wr => ∃ (k : Nat) (F : Nat -> Value), k <= m.ps.length /\ i = .int .i64 k /\ Below w3.1.size w3 wr /\ w3.1.size + 1 <= wr.1.size /\ LnF wr (w3.1.size + 1) w3.1.size ls.length (Z0P zs (Z38 m bar B R ls zs) k) F) (fun i _ => m.ps.length - (intOf i).toNat)
 case atStart => exact ⟨0, _, ZE _, rfl, HW33.out, by simp, HF0.out⟩
 case round =>
  clear HW33 HF0
  obtain ⟨k, F, hk, rfl, hB3, hsz, hF⟩ := hrel
  by_cases hlt : k < m.ps.length
  ·have HB3 := Z0 hB3
   have HF := Z0 hF
   obtain ⟨g, off, rfl, hg, hst⟩ := HPC.out (by omega)
   have hg3 : g < w3.1.size := by have := HL5.out.size; omega
   have hB0 := HL5.out
   have e1 : ∀ (W : World), Below wr.1.size wr W -> ∀ g o, g < w3.1.size -> W.cell? ⟨g, o, none⟩ = w3.cell? ⟨g, o, none⟩ := fun W hW g o hg => (hW.cell (p := ⟨g, o, none⟩) (by have := hB3.size; show g < wr.1.size; omega)).trans (hB3.cell (p := ⟨g, o, none⟩) hg)
   have e0 : ∀ g o, g < w.1.size -> w3.cell? ⟨g, o, none⟩ = w.cell? ⟨g, o, none⟩ := fun g o hg => hB0.cell (p := ⟨g, o, none⟩) hg
   obtain ⟨p0, p1, p2, p3, p4⟩ := (hst k hlt).below (hB0.trans (hB3.mono hB0.size)) hg
   have hgr : g < wr.1.size := by omega
   have hkz : k < zs.length := by rw [HZL.out]; exact hlt
   obtain ⟨gz, oz, rfl, hgz, hzc⟩ := HNC.out (by omega)
   have hzk := hzc k hkz
   obtain ⟨s1, s2⟩ := HZS.out _ (Z4 hkz)
   obtain ⟨u, hu⟩ : ∃ u : Nat, zs[k] = u := ⟨zs[k].toNat, by omega⟩
   rw [hu] at hzk s2
   have hul : u < ls.length := by omega
   have hzu : zs.getD k (-1) = (u : Int) := by rw [Z2, Z3 hkz]; exact hu
   obtain ⟨gl, ol, rfl, hgl, hlc⟩ := HLC.out (by omega)
   obtain ⟨lv, _, hlat⟩ := hlc u hul
   have hl4 := hlat.2.2.2.2
   have hcu : Z71 ls (zs.getD k (-1)) = ls[u].cents := by
    unfold Z71
    rw [hzu, Int.toNat_natCast, Z2, Z3 hul]; rfl
   have hpk : m.ps.getD k ⟨0, 0, ⟨#[]⟩, 0, false⟩ = m.ps[k] := by rw [Z2, Z3 hlt]; rfl
   have hln : Z38 m bar B R ls zs k = ⟨0, 1, if m.ps[k].barred then 1 else 0, m.ps[k].grams, B k, if m.ps[k].barred then bar else 0, ls[u].cents, R k⟩ := by
    unfold Z38 Za6
    rw [hcu, hpk]
   have o1 : w3.cell? ⟨G1, k, none⟩ = some (.int .i64 (R k)) := by rw [HOW1.out.cellAt k (by omega), Z5J hlt]
   have o2 : w3.cell? ⟨G2, k, none⟩ = some (.int .i64 (B k)) := by rw [HOW2.out.cellAt k (by omega), Z5J hlt]
   have HLN := Z0 hln
   have hz1 := (e1 wr (Z9 _ _) gz (oz + k) (by omega)).trans ((e0 gz (oz + k) hgz).trans hzk)
   have hl1 := (e1 wr (Z9 _ _) gl (ol + u * 5 + 4) (by omega)).trans ((e0 gl (ol + u * 5 + 4) hgl).trans hl4)
   have q1 := (e1 wr (Z9 _ _) G1 k hG1s).trans o1
   have q2 := (e1 wr (Z9 _ _) G2 k hG2s).trans o2
   have hgzr : gz < wr.1.size := by omega
   have hglr : gl < wr.1.size := by omega
   have hG1r : G1 < wr.1.size := by omega
   have hG2r : G2 < wr.1.size := by omega
   have d4 : decide ((k : Int) < (m.ps.length : Int)) = true := decide_eq_true (by omega)
   have HLL := Z0 (HIN.out k hlt)
   have hlen := Z53 zs (Z38 m bar B R ls zs) k u
   have HSAME := Z0 (Zeh zs (Z38 m bar B R ls zs) hzu)
   have HOTHER : Hid (∀ j : Nat, j ≠ u -> Z0P zs (Z38 m bar B R ls zs) (k + 1) j = Z0P zs (Z38 m bar B R ls zs) k j) := fun j hj => Zeg zs _ (by rw [hzu]; omega)
   have HE1 := Z0 e1
   have HZK := Z0 ((e0 gz (oz + k) hgz).trans hzk)
   clear hst hzc hlc hlat hl4 hzk hu hzu hcu hpk hln o1 o2 e1 e0 hB3 hF hB0 s1 HPC HNC HLC HZS HIN
   generalize Z38 m bar B R ls zs k = pk at HLN HLL HSAME
   generalize ls[u] = l at hl1 HLN
   generalize m.ps[k] = p at p0 p1 p2 p3 p4 HLN
   generalize R k = rk at q1 HLN
   generalize B k = bk at q2 HLN
   go_wp2_with fail
   go_region
   go_upto_if 80 with fail
   obtain ⟨n1, n2, n3, n4⟩ := Z1U (w := wr) (A := .cells #[.int .i64 p.id, .int .i64 p.point, .string p.code, .int .i64 p.grams, .bool p.barred] 65) (B := .cells #[.int .i64 0, .int .i64 1, .int .i64 0, .int .i64 p.grams, .int .i64 bk, .int .i64 0, .int .i64 l.cents, .int .i64 rk] 42) rfl
   obtain ⟨W1, hW1⟩ : ∃ W1, W1 = ((wr.alloc (.cells #[.int .i64 p.id, .int .i64 p.point, .string p.code, .int .i64 p.grams, .bool p.barred] 65)).alloc (.cells #[.int .i64 0, .int .i64 1, .int .i64 0, .int .i64 p.grams, .int .i64 bk, .int .i64 0, .int .i64 l.cents, .int .i64 rk] 42)).drew := ⟨_, rfl⟩
   have hb1 : Below wr.1.size wr W1 := by rw [hW1]; exact n4.drew
   have hzz1 : W1.1.size = wr.1.size + 2 := by rw [hW1]; exact n3
   have hx1 : W1.1[wr.1.size + 1]? = some (.cells #[.int .i64 0, .int .i64 1, .int .i64 0, .int .i64 p.grams, .int .i64 bk, .int .i64 0, .int .i64 l.cents, .int .i64 rk] 42 (0, 0)) := by rw [hW1]; exact n2
   rw [<- hW1]
   have HB1 := Z0 hb1
   have HZZ1 := Z0 hzz1
   have HX1 := Z0 hx1
   clear hW1 n1 n2 n3 n4 q1 q2 hz1 hl1 p0 p1 p2 p3 p4 hb1 hzz1 hx1 hG1s hG2s hG1r hG2r hglr hgr hgzr
   go_cut [] from 59 to 83 (fun wx => Below wr.1.size wr wx /\ wx.1.size = wr.1.size + 2 /\ ∃ b1 b2 : Int, Hid (pk = ⟨0, 1, b1, p.grams, bk, b2, l.cents, rk⟩) /\ wx.1[wr.1.size + 1]? = some (.cells #[.int .i64 0, .int .i64 1, .int .i64 b1, .int .i64 p.grams, .int .i64 bk, .int .i64 b2, .int .i64 l.cents, .int .i64 rk] 42 (0, 0)))
   case first =>
    have f2 := Z02 (j := 2) HX1.out
    have f5 := Z02 (j := 5) HX1.out
    have c2 := cell_of_row _ _ 2 _ _ _ HX1.out
    have c5 := cell_of_row _ _ 5 _ _ _ HX1.out
    cases hbd : p.barred
    ·rw [hbd] at HLN
     go_wp2_with fail
     go_meet
     exact ⟨HB1.out, HZZ1.out, 0, 0, HLN.out, HX1.out⟩
    ·rw [hbd] at HLN
     go_wp2_with fail
     go_meet
     refine ⟨(HB1.out.setCell (p := ⟨wr.1.size + 1, 2, none⟩) (Nat.le_succ _) _).setCell (p := ⟨wr.1.size + 1, 5, none⟩) (Nat.le_succ _) _, by simp [World.setCell]; exact HZZ1.out, 1, bar, HLN.out, ?_⟩
     have h := HX1.out
     simp [World.setCell, Array.getElem?_modify, h]
   case rest =>
    obtain ⟨hb2, hzz2, b1, b2, HPK, hx2⟩ := hcut
    obtain ⟨W2, hW2⟩ : ∃ W2, W2 = wc := ⟨_, rfl⟩
    subst hW2
    clear HB1 HZZ1 HX1 HLN
    go_wp2_with fail
    have HPK2 := HPK
    have HZ2 := Z0 hzz2
    have HX2 := Z0 hx2
    clear hzz2 HPK
    have hz := (HE1.out W2 hb2 gz (oz + k) (by have := HL5.out.size; omega)).trans HZK.out
    have hsame : ∀ w' : World, w'.1[gz]? = W2.1[gz]? -> w'.1[wr.1.size + 1]? = W2.1[wr.1.size + 1]? -> w'.cell? ⟨gz, oz + k, none⟩ = some (.int .i64 u) /\ w'.cell? ⟨wr.1.size + 1, 0, none⟩ = some (.int .i64 0) /\ w'.cell? ⟨wr.1.size + 1, 1, none⟩ = some (.int .i64 1) /\ w'.cell? ⟨wr.1.size + 1, 2, none⟩ = some (.int .i64 b1) /\ w'.cell? ⟨wr.1.size + 1, 3, none⟩ = some (.int .i64 p.grams) /\ w'.cell? ⟨wr.1.size + 1, 4, none⟩ = some (.int .i64 bk) /\ w'.cell? ⟨wr.1.size + 1, 5, none⟩ = some (.int .i64 b2) /\ w'.cell? ⟨wr.1.size + 1, 6, none⟩ = some (.int .i64 l.cents) /\ w'.cell? ⟨wr.1.size + 1, 7, none⟩ = some (.int .i64 rk) := fun w' h1 h2 => by
     have h3 := h2.trans HX2.out
     exact ⟨(World.cell?_of_block (w := W2) h1).trans hz, cell_of_row _ _ 0 _ _ _ h3, cell_of_row _ _ 1 _ _ _ h3, cell_of_row _ _ 2 _ _ _ h3, cell_of_row _ _ 3 _ _ _ h3, cell_of_row _ _ 4 _ _ _ h3, cell_of_row _ _ 5 _ _ _ h3, cell_of_row _ _ 6 _ _ _ h3, cell_of_row _ _ 7 _ _ _ h3⟩
    have HSM := Z0 hsame
    have hF2 := HF.out.below hb2
    have hcu := hF2.row.cell hul
    have hfz := hF2.row.frozen u
    have hown := hF2.own u hul
    obtain ⟨Fu, hFu⟩ : ∃ f, f = F u := ⟨_, rfl⟩
    have hform : ∃ fa fc, Fu = .slice fa (Z0P zs (Z38 m bar B R ls zs) k u).length fc := by
     rw [hFu]
     rcases Joins.ownsRow_forms hown with ⟨e, hp⟩ | ⟨gf, cf, e⟩
     ·exact ⟨none, 0, by rw [e, hp]⟩
     ·exact ⟨_, cf, e⟩
    rw [<- hFu] at hcu hown
    have HFU := Z0 hFu
    obtain ⟨fa, fc, rfl⟩ := hform
    obtain ⟨bn, hbn⟩ : ∃ n, n = (Z0P zs (Z38 m bar B R ls zs) k u).length := ⟨_, rfl⟩
    rw [<- hbn] at hcu hown HFU hlen
    have HBN := Z0 hbn
    have HOWN := Z0 hown
    have HB2 := Z0 hb2
    have hlb : w3.1.size < W2.1.size := by have := hb2.size; omega
    have hgz2 : gz < W2.1.size := by have := hb2.size; omega
    have hwr2 : wr.1.size + 1 < W2.1.size := (Z5.1 hx2).1
    obtain ⟨i0, hi⟩ := info_parts Tryz.infoLine
    have HI := Z0 hi
    have hba : Below W2.1.size W2 (W2.drew.alloc (.cells #[.int .i64 0, .int .i64 1, .int .i64 b1, .int .i64 p.grams, .int .i64 bk, .int .i64 b2, .int .i64 l.cents, .int .i64 rk] 42)) := (Z9 W2.1.size W2).drew.alloc (Z1 _) _
    have HBA := Z0 hba
    have hcu2 : (W2.alloc (.cells #[.int .i64 0, .int .i64 1, .int .i64 b1, .int .i64 p.grams, .int .i64 bk, .int .i64 b2, .int .i64 l.cents, .int .i64 rk] 42)).cell? ⟨w3.1.size, u, none⟩ = some (.slice fa bn fc) := (hba.cell (p := ⟨w3.1.size, u, none⟩) hlb).trans hcu
    have hkeep : Hid (∀ w9 : World, (W2.drew.alloc (.cells #[.int .i64 0, .int .i64 1, .int .i64 b1, .int .i64 p.grams, .int .i64 bk, .int .i64 b2, .int .i64 l.cents, .int .i64 rk] 42)).grownBy w9 (Value.slice fa bn fc).ownBlock -> ∀ b, b < w3.1.size + 1 \/ b = wr.1.size + 1 /\ (Value.slice fa bn fc).ownBlock ≠ some b -> w9.1[b]? = W2.1[b]?) := fun w9 hg b hb =>
     (hg.block _ (by show b < (W2.drew.alloc _).1.size; rw [Z6]; show b < W2.1.size + 1; rcases hb with h | h <;> omega) (fun e => by
      rcases hb with h | h
      ·have := (HOWN.out.lt _ e.symm).1; omega
      ·exact h.2 e.symm)).trans (HBA.out.block _ (by rcases hb with h | h <;> omega))
    have hno : (Value.slice fa bn fc).ownBlock ≠ some (wr.1.size + 1) := fun e => by
     have h1 := (HF.out.own u hul).lt (wr.1.size + 1) (by rw [<- HFU.out]; exact e)
     omega
    have HNO := Z0 hno
    clear hFu hbn hown hF2 hb2 hx2 hi hsame hba hz hno
    have hgz3 : gz < w3.1.size := by have := HL5.out.size; omega
    have hgz4 : gz ≠ w3.1.size := by omega
    have hwr3 : wr.1.size + 1 ≠ w3.1.size := by omega
    have hwr4 : w3.1.size < w3.1.size + 1 := Nat.lt_succ_self _
    have hgz5 : gz < w3.1.size + 1 := by omega
    have hone : ∀ v ∈ [Value.int .i64 0, Value.int .i64 1, Value.int .i64 b1, Value.int .i64 p.grams, Value.int .i64 bk, Value.int .i64 b2, Value.int .i64 l.cents, Value.int .i64 rk], v.oneCell' = true := by simp [Value.oneCell']
    have hkp2 : ∀ w9 : World, (W2.drew.alloc (.cells #[.int .i64 0, .int .i64 1, .int .i64 b1, .int .i64 p.grams, .int .i64 bk, .int .i64 b2, .int .i64 l.cents, .int .i64 rk] 42)).grownBy w9 (Value.slice fa bn fc).ownBlock -> w9.1[gz]? = W2.1[gz]? /\ w9.1[wr.1.size + 1]? = W2.1[wr.1.size + 1]? := fun w9 h => ⟨hkeep.out w9 h _ (.inl hgz5), hkeep.out w9 h _ (.inr ⟨rfl, HNO.out⟩)⟩
    refine Z4M (ops' := Zgn) (by kernel_rfl) (Zjr _ W2 _ (gz := gz) (oz := oz) (zl := zs.length) (cn := cn) (PB := w3.1.size) (L := ls.length) (k := k) (u := u) (LB := wr.1.size + 1) (bn := bn) (fc := fc) (fa := fa) (base := w3.1.size + 1) (by simp) (fun _ _ _ _ _ h => h) rfl rfl rfl rfl hkz hul ?_ hcu hfz hlb hone HOWN.out (by omega) hwr4 (by omega) (fun w9 h => HSM.out _ (hkp2 w9 h).1 (hkp2 w9 h).2) (fun w9 h x => HSM.out _ ((ZA _ _ _ _ hgz4).trans (hkp2 w9 h).1) ((ZA _ _ _ _ hwr3).trans (hkp2 w9 h).2)) ?_)
    ·intro w' hw'
     rcases hw' with rfl | rfl
     ·exact HSM.out _ rfl rfl
     ·exact HSM.out _ (HBA.out.block _ hgz2) (HBA.out.block _ hwr2)
    intro a' g9 cap9 w9 hsz9 hev9 hdf9 hown9 hgrow hat9
    rw [Z4Y (a' := a') [84, 85, 86, 87, 88, 89, 90, 91, 92, 93, 94, 95, 96, 97, 98, 99] hsz9 (fun n hn => hev9 n (by simp at hn; omega)) hdf9]
    generalize Act.eval a' (.tmp 84) = u84
    generalize Act.eval a' (.tmp 85) = u85
    generalize Act.eval a' (.tmp 86) = u86
    generalize Act.eval a' (.tmp 87) = u87
    generalize Act.eval a' (.tmp 88) = u88
    generalize Act.eval a' (.tmp 89) = u89
    generalize Act.eval a' (.tmp 90) = u90
    generalize Act.eval a' (.tmp 91) = u91
    generalize Act.eval a' (.tmp 92) = u92
    generalize Act.eval a' (.tmp 93) = u93
    generalize Act.eval a' (.tmp 94) = u94
    generalize Act.eval a' (.tmp 95) = u95
    generalize Act.eval a' (.tmp 96) = u96
    generalize Act.eval a' (.tmp 97) = u97
    generalize Act.eval a' (.tmp 98) = u98
    generalize Act.eval a' (.tmp 99) = u99
    simp only [Z1W, Act.put, List.setIfInBounds_toArray, List.set_cons_succ, List.set_cons_zero]
    go_wp2_with fail
    go_roundw
    case rel =>
     have hbx : Below wr.1.size wr (W2.drew.alloc (.cells #[.int .i64 0, .int .i64 1, .int .i64 b1, .int .i64 p.grams, .int .i64 bk, .int .i64 b2, .int .i64 l.cents, .int .i64 rk] 42)) := HB2.out.trans (HBA.out.mono HB2.out.size)
     have hFx := HF.out.below hbx
     have hg9 : (W2.drew.alloc (.cells #[.int .i64 0, .int .i64 1, .int .i64 b1, .int .i64 p.grams, .int .i64 bk, .int .i64 b2, .int .i64 l.cents, .int .i64 rk] 42)).grownBy w9 (F u).ownBlock := by rw [<- HFU.out]; exact hgrow
     have hat : (F u).ownBlock = some g9 \/ (W2.drew.alloc (.cells #[.int .i64 0, .int .i64 1, .int .i64 b1, .int .i64 p.grams, .int .i64 bk, .int .i64 b2, .int .i64 l.cents, .int .i64 rk] 42)).1.size <= g9 := by
      rw [<- HFU.out]
      exact hat9.imp id (fun h => by rw [h, Z6]; exact Z1 _)
     have ho9 : w9.ownsRow (w3.1.size + 1) 42 8 (.slice (some ⟨g9, 0, none⟩) ((Z0P zs (Z38 m bar B R ls zs) k u).length + 1) cap9) ((Z0P zs (Z38 m bar B R ls zs) k u).length + 1) ((Z0P zs (Z38 m bar B R ls zs) k u).flatMap lnC ++ lnC pk) := by
      rw [<- HBN.out, HPK2.out]; exact hown9
     have hput := hFx.put hul pk (Nat.lt_succ_self _) ho9 hg9 hat
     have hG : (fun i => if i = u then Z0P zs (Z38 m bar B R ls zs) k u ++ [pk] else Z0P zs (Z38 m bar B R ls zs) k i) = Z0P zs (Z38 m bar B R ls zs) (k + 1) := funext fun j => by
      by_cases e : j = u
      ·subst e
       rw [if_pos rfl, HSAME.out]
      ·rw [if_neg e, HOTHER.out j e]
     rw [hG, <- HBN.out] at hput
     have hlo : ∀ b, (F u).ownBlock = some b -> w3.1.size + 1 <= b := fun b hb => ((HF.out.own u hul).lt b hb).1
     have hs9 := hg9.size
     have hsx := hbx.size
     refine ⟨k + 1, _, by omega, by go_num, ((Z00 HB3.out HB3.out.size hbx).grown hg9 (by omega) (fun r e => by have := hlo r e; omega)).setCell (p := ⟨w3.1.size, u, none⟩) (Z1 _) _, ?_, hput⟩
     simp [World.setCell]; omega
    case measure => simp [intOf]; omega
  ·obtain rfl : k = m.ps.length := by omega
   obtain ⟨w4, hw4⟩ : ∃ x, x = wr := ⟨wr, rfl⟩
   subst hw4
   have HB3 := Z0 hB3
   have HF := Z0 hF
   have HM0 : Hid ((w4.alloc ZfH).1[w4.1.size]? = some ZfH) := Z01 w4 _
   have HBM : Hid (Below w4.1.size w4 (w4.alloc ZfH)) := (Z9 _ w4).alloc (Z1 _) _
   unfold ZfH at HM0 HBM
   have HSZ := Z0 hsz
   have HPS := Z0 hnl
   have d4 : decide ((m.ps.length : Int) < (m.ps.length : Int)) = false := decide_eq_false (by omega)
   clear hB3 hF hlt hk HPC HNC HLC HZS HZL HOW1 HOW2 hG1s hG2s
   go_wp2_with fail
   go_loopw [103] (fun i wx => ∃ (j : Nat) (v : Value), j <= ls.length /\ i = .int .i64 j /\ Below w4.1.size w4 wx /\ w4.1.size + 1 <= wx.1.size /\ wx.1[w4.1.size]? = some (.cells #[v, .int .i64 0, .int .i64 0, .int .i64 0, .int .i64 0, .int .i64 0, .int .i64 0, .int .i64 0, .int .i64 0, .int .i64 0, .int .i64 0, .int .i64 0] 44) /\ wx.ownsRow (w4.1.size + 1) 42 8 v j (((List.range j).map (fun (j : Nat) => Z3b (j : Int) (Z0P zs (Z38 m bar B R ls zs) m.ps.length j))).flatMap lnC)) (fun i _ => ls.length - (intOf i).toNat)
   case atStart => exact ⟨0, _, ZE _, rfl, HBM.out, by simp, HM0.out, World.ownsRow_nil _ _ _ _⟩
   case round =>
    clear HM0 HBM d4
    obtain ⟨j, v, hj, rfl, hbx, hsx, hbox, hO⟩ := hrel
    have HBX := Z0 hbx
    have HBOX := Z0 hbox
    obtain ⟨va, vc, rfl⟩ := Z0B hO
    have HO := Z0 hO
    by_cases hjl : j < ls.length
    ·have hFx := HF.out.below hbx
     have hcj := hFx.row.cell hjl
     have hrd := OwnsLn.rd (hFx.own j hjl)
     generalize F j = fv at hcj hrd
     have HRD := Z0 hrd
     obtain ⟨S, hS⟩ : ∃ S, S = Z3b (j : Int) (Z0P zs (Z38 m bar B R ls zs) m.ps.length j) := ⟨_, rfl⟩
     have HADD : Hid (∀ W, Below wr.1.size wr W -> Calls Tryz.prog 67 #[.int .i64 (j : Int), fv] W fun e w' => e = .returned (.agg #[.int .i64 S.level, .int .i64 S.pieces, .int .i64 S.barred, .int .i64 S.grams, .int .i64 S.base, .int .i64 S.bar, .int .i64 S.saved, .int .i64 S.cents]) /\ Below W.1.size W w') := fun W hW => by
      have := ZfE (m := 1000000) (j : Int) _ fv W (HRD.out.below hW) (Z9r HIN.out) (by omega) (Nat.le_trans (Z53 _ _ _ _) (by omega))
      rw [<- hS] at this
      exact this
     have HSU : Hid ((List.range (j + 1)).map (fun (j : Nat) => Z3b (j : Int) (Z0P zs (Z38 m bar B R ls zs) m.ps.length j)) = ((List.range j).map (fun (j : Nat) => Z3b (j : Int) (Z0P zs (Z38 m bar B R ls zs) m.ps.length j))) ++ [S]) := by rw [hS]; show _ = _; rw [List.range_succ, ZD]; rfl
     have hbv : ∀ W, Below wr.1.size wr W -> W.cell? ⟨w4.1.size, 0, none⟩ = some (.slice va j vc) /\ W.frozen? ⟨w4.1.size, 0, none⟩ = false := fun W hW => by
      have h1 := (hW.block w4.1.size (by omega)).trans HBOX.out
      exact ⟨cell_of_row _ _ 0 _ _ _ h1, Z02 h1⟩
     have HBV := Z0 hbv
     obtain ⟨b3, f3⟩ := hbv wr (Z9 _ _)
     have HLO : Hid (∀ b, (Value.slice va j vc).ownBlock = some b -> w4.1.size + 1 <= b) := fun b hb => (HO.out.lt b hb).1
     have HST : Hid (∀ w9 : World, (∀ b, b < w4.1.size + 1 -> w9.1[b]? = wr.1[b]?) -> w9.cell? ⟨w4.1.size, 0, none⟩ = some (.slice va j vc) /\ w9.frozen? ⟨w4.1.size, 0, none⟩ = false) := fun w9 h9 => by
      have h1 := (h9 w4.1.size (by omega)).trans HBOX.out
      exact ⟨cell_of_row _ _ 0 _ _ _ h1, Z02 h1⟩
     obtain ⟨i0, hi⟩ := info_parts Tryz.infoLine
     have HI := Z0 hi
     have hw3r : w3.1.size < wr.1.size := by omega
     clear hbv hi hbx hbox hO hFx hrd hS
     go_wp2_with fail
     go_region_law (first | (refine step_append_lies _ (by rfl) _ _ _ (by rfl) (w4.1.size + 1) 42 i0 (.agg #[.int .i64 0, .int .i64 0, .int .i64 0, .int .i64 0, .int .i64 0, .int .i64 0, .int .i64 0, .int .i64 0]) 8 64 Tryz.underlying40 HI.out.1 HI.out.2.1 HI.out.2.2.1 HI.out.2.2.2 rfl (by decide) (.slice va j vc) j _ (by rfl) ((Z09 HO.out hbC).alloc _) ⟨wC.1.size, 0, none⟩ 1 1 (lnC S) (by rfl) (by rfl) (Z0f wC _ _) (by simp [Value.oneCell', lnC]) (by omega) (by unfold maxLen; omega) (by omega) (by have := hbC.size; show _ <= (wC.alloc _).1.size; rw [Z6]; omega) _ rfl ?_; intro g9 cap9 w9 hown9 hgrow hat9 hlt9; have HB9 : Hid (∀ b, b < w4.1.size + 1 -> w9.1[b]? = wr.1[b]?) := (fun b hb => (hgrow.block b (by have := hbC.size; show b < (wC.alloc _).1.size; rw [Z6]; omega) (fun e => by have := HLO.out b e.symm; omega)).trans ((show (wC.alloc _).1[b]? = _ from ZB _ _ _ (by have := hbC.size; omega)).trans (hbC.block b (by omega)))); obtain ⟨e9, f9⟩ := HST.out w9 HB9.out) | (go_simp; go_at_call 67; refine (HADD.out _ (Z9 _ wr).drew).mono ?_; rintro e wC ⟨rfl, hbC0⟩; have hbC : Below wr.1.size wr wC := (Z9 _ wr).drew.trans hbC0; clear hbC0; obtain ⟨bC3, fC3⟩ := HBV.out wC hbC; have hXC : (wC.alloc (.cells #[.int .i64 S.level, .int .i64 S.pieces, .int .i64 S.barred, .int .i64 S.grams, .int .i64 S.base, .int .i64 S.bar, .int .i64 S.saved, .int .i64 S.cents] 42)).cell? ⟨w4.1.size, 0, none⟩ = some (.slice va j vc) := (HBV.out _ (hbC.alloc hbC.size _)).1))
     all_goals
      go_wp2_with fail
      go_roundw
      case rel =>
       have h9 : w9.1[w4.1.size]? = _ := (HB9.out _ (by omega)).trans HBOX.out
       have hbz : Below w4.1.size w4 (wC.alloc (.cells #[.int .i64 S.level, .int .i64 S.pieces, .int .i64 S.barred, .int .i64 S.grams, .int .i64 S.base, .int .i64 S.bar, .int .i64 S.saved, .int .i64 S.cents] 42)) := (HBX.out.trans (hbC.mono HBX.out.size)).alloc (Nat.le_trans HBX.out.size hbC.size) _
       refine ⟨j + 1, .slice (some ⟨g9, 0, none⟩) (j + 1) cap9, by omega, by go_num, ?_, ?_, ?_, ?_⟩
       ·exact (hbz.grown hgrow hbz.size (fun r e => by have := HLO.out r e; omega)).setCell (p := ⟨w4.1.size, 0, none⟩) (Z1 _) _
       ·have h1 := hgrow.size
        have h2 := hbC.size
        rw [Z6] at h1
        simp [World.setCell]; omega
       ·show (w9.1.modify w4.1.size _)[w4.1.size]? = _
        rw [Array.getElem?_modify, if_pos rfl, h9]
        rfl
       ·rw [HSU.out, List.flatMap_append, List.flatMap_cons, List.flatMap_nil, List.append_nil]
        exact hown9.kept (Z07 _ _ _) (.inr (by show some g9 ≠ some w4.1.size; have := (hown9.lt g9 rfl).1; intro e; injection e; omega))
      case measure => simp [intOf]; omega
    ·obtain rfl : j = ls.length := by omega
     obtain ⟨LL, hLL⟩ : ∃ LL, LL = (List.range ls.length).map (fun (j : Nat) => Z3b (j : Int) (Z0P zs (Z38 m bar B R ls zs) m.ps.length j)) := ⟨_, rfl⟩
     have hO' := HO.out
     rw [<- hLL] at hO'
     have hlen : LL.length = ls.length := by rw [hLL, Z7, List.length_range]
     have hoL : OwnsLn wr (w4.1.size + 1) (.slice va ls.length vc) LL := by show wr.ownsRow _ _ _ _ LL.length _; rw [hlen]; exact hO'
     have HRD := Z0 (OwnsLn.rd hoL)
     have HOL := Z0 hoL
     have HLIN : Hid (∀ x ∈ LL, LnIn 2000000000 x) := fun x hx => by
      rw [hLL] at hx
      obtain ⟨i, _, rfl⟩ := List.mem_map.1 hx
      exact (Zbw _ (Z9r HIN.out)).mono (by have := Z53 zs (Z38 m bar B R ls zs) m.ps.length i; have := HPS.out; omega)
     obtain ⟨T, hT⟩ : ∃ T, T = Z3b (ls.length : Int) LL := ⟨_, rfl⟩
     have HADD : Hid (∀ W, Below wr.1.size wr W -> Calls Tryz.prog 67 #[.int .i64 (ls.length : Int), .slice va ls.length vc] W fun e w' => e = .returned (.agg #[.int .i64 T.level, .int .i64 T.pieces, .int .i64 T.barred, .int .i64 T.grams, .int .i64 T.base, .int .i64 T.bar, .int .i64 T.saved, .int .i64 T.cents]) /\ Below W.1.size W w') := fun W hW => by
      have := ZfE (m := 2000000000) (ls.length : Int) LL _ W (HRD.out.below hW) HLIN.out (by omega) (by omega)
      rw [<- hT] at this
      exact this
     have HMAN : Hid (∀ v, Z9B (Z6t zs (Z38 m bar B R ls zs) m.ps.length ls.length nb nt nc) v = .agg #[v, .int .i64 T.level, .int .i64 T.pieces, .int .i64 T.barred, .int .i64 T.grams, .int .i64 T.base, .int .i64 T.bar, .int .i64 T.saved, .int .i64 T.cents, .int .i64 nb, .int .i64 nt, .int .i64 nc]) := fun v => by rw [hT, hLL]; rfl
     have HLN : Hid ((Z6t zs (Z38 m bar B R ls zs) m.ps.length ls.length nb nt nc).lines = LL) := hLL.symm
     have HC7 : Hid (∀ w7, Below wr.1.size wr w7 -> w7.1[w.1.size + 1 + 1]? = w3.1[w.1.size + 1 + 1]? /\ w7.1[w.1.size + 1 + 1 + 1]? = w3.1[w.1.size + 1 + 1 + 1]? /\ w7.1[w4.1.size]? = wr.1[w4.1.size]? /\ Below w.1.size w w7) := fun w7 h7 => by
      have c1 := Z00 HB3.out HB3.out.size HBX.out
      have c2 := Z00 c1 c1.size h7
      exact ⟨c2.block _ (by omega), c2.block _ (by omega), h7.block _ (by omega), Z00 HL5.out HL5.out.size c2⟩
     have b0 := cell_of_row _ _ 0 _ _ _ HBOX.out
     have d4 : decide ((ls.length : Int) < (ls.length : Int)) = false := decide_eq_false (by omega)
     clear hbx hbox hO hO' hoL hlen hT hLL hjl hj HIN HF
     go_wp2_with (go_at_call 67; refine (HADD.out _ (Z9 _ _)).mono ?_; rintro e w7 ⟨rfl, hb7⟩; obtain ⟨k1, k2, k3, HW7⟩ := HC7.out w7 hb7; have HOW7 := Z0 (Z09 HOL.out hb7); have kL := k1.trans HL3.out; have kM := k2.trans HL4.out; have kB := k3.trans HBOX.out; have KL := Z0 kL; have KM := Z0 kM; have KB := Z0 kB; have s7 := hb7.size; have l0 := cell_of_row _ _ 0 _ _ _ kL; have l1 := cell_of_row _ _ 1 _ _ _ kL; have l2 := cell_of_row _ _ 2 _ _ _ kL; have f0 := Z02 (j := 0) kB; have f1 := Z02 (j := 1) kB; have f2 := Z02 (j := 2) kB; have f3 := Z02 (j := 3) kB; have f4 := Z02 (j := 4) kB; have f5 := Z02 (j := 5) kB; have f6 := Z02 (j := 6) kB; have f7 := Z02 (j := 7) kB; have f8 := Z02 (j := 8) kB; have f9 := Z02 (j := 9) kB; have f10 := Z02 (j := 10) kB; have f11 := Z02 (j := 11) kB; have e1 := cell_of_row _ _ 1 _ _ _ kB; have e2 := cell_of_row _ _ 2 _ _ _ kB; have e3 := cell_of_row _ _ 3 _ _ _ kB; have e4 := cell_of_row _ _ 4 _ _ _ kB; have e5 := cell_of_row _ _ 5 _ _ _ kB; have e6 := cell_of_row _ _ 6 _ _ _ kB; have e7 := cell_of_row _ _ 7 _ _ _ kB; have e8 := cell_of_row _ _ 8 _ _ _ kB; have e9 := cell_of_row _ _ 9 _ _ _ kB; have e10 := cell_of_row _ _ 10 _ _ _ kB; have e11 := cell_of_row _ _ 11 _ _ _ kB; clear hb7 k1 k2 k3 kL kM kB)
     obtain ⟨W8, hW8⟩ : ∃ x, x = ((((((((w7.setCell ⟨w4.1.size, 1, none⟩ (.int .i64 T.level)).setCell ⟨w4.1.size, 2, none⟩ (.int .i64 T.pieces)).setCell ⟨w4.1.size, 3, none⟩ (.int .i64 T.barred)).setCell ⟨w4.1.size, 4, none⟩ (.int .i64 T.grams)).setCell ⟨w4.1.size, 5, none⟩ (.int .i64 T.base)).setCell ⟨w4.1.size, 6, none⟩ (.int .i64 T.bar)).setCell ⟨w4.1.size, 7, none⟩ (.int .i64 T.saved)).setCell ⟨w4.1.size, 8, none⟩ (.int .i64 T.cents)) := ⟨_, rfl⟩
     have G8 : w7.grownBy W8 (some w4.1.size) := by rw [hW8]; exact ZfS _ _ _ _ _ _ _ _ _ _
     have kB8 : W8.1[w4.1.size]? = some (.cells #[.slice va ls.length vc, .int .i64 T.level, .int .i64 T.pieces, .int .i64 T.barred, .int .i64 T.grams, .int .i64 T.base, .int .i64 T.bar, .int .i64 T.saved, .int .i64 T.cents, .int .i64 0, .int .i64 0, .int .i64 0] 44 (0, 0)) := by rw [hW8]; exact Zjq KB.out
     rw [<- hW8]
     have kL8 := (G8.block (w.1.size + 1 + 1) (by omega) (by intro e; injection e; omega)).trans KL.out
     have kM8 := (G8.block (w.1.size + 1 + 1 + 1) (by omega) (by intro e; injection e; omega)).trans KM.out
     have s8 := G8.size
     have HG8 := Z0 G8
     have KB8 := Z0 kB8
     have KM8 := Z0 kM8
     clear hW8 l0 l1 l2 f0 f1 f2 f3 f4 f5 f6 f7 f8 f9 f10 f11 e1 e2 e3 e4 e5 e6 e7 e8 e9 e10 e11 KL KB KM G8
     have l0 := cell_of_row _ _ 0 _ _ _ kL8
     have l1 := cell_of_row _ _ 1 _ _ _ kL8
     have l2 := cell_of_row _ _ 2 _ _ _ kL8
     have f9 := Z02 (j := 9) kB8
     have f10 := Z02 (j := 10) kB8
     have f11 := Z02 (j := 11) kB8
     have e9 := cell_of_row _ _ 9 _ _ _ kB8
     have e10 := cell_of_row _ _ 10 _ _ _ kB8
     have e11 := cell_of_row _ _ 11 _ _ _ kB8
     have hkp : ∀ W', W8.grownBy W' (some w4.1.size) -> W'.cell? ⟨w.1.size + 1 + 1, 0, none⟩ = some (.slice ab nb cb) /\ W'.cell? ⟨w.1.size + 1 + 1, 1, none⟩ = some (.slice at' nt ct) /\ W'.cell? ⟨w.1.size + 1 + 1, 2, none⟩ = some (.slice ac nc cc) := fun W' h => by
      have h1 := (h.block (w.1.size + 1 + 1) (by omega) (by intro e; injection e; omega)).trans kL8
      exact ⟨cell_of_row _ _ 0 _ _ _ h1, cell_of_row _ _ 1 _ _ _ h1, cell_of_row _ _ 2 _ _ _ h1⟩
     have HKP := Z0 hkp
     have hne4 : w4.1.size ≠ w.1.size + 1 + 1 := by omega
     have hg0 : W8.grownBy W8.drew (some w4.1.size) := ⟨rfl, rfl, rfl, Z1 _, fun _ _ _ => rfl⟩
     have HG0 := Z0 hg0
     clear kB8 kL8 kM8 hkp hg0
     go_cut [] from 123 to 134 (fun wx => W8.grownBy wx (some w4.1.size) /\ wx.1[w4.1.size]? = some (.cells #[.slice va ls.length vc, .int .i64 T.level, .int .i64 T.pieces, .int .i64 T.barred, .int .i64 T.grams, .int .i64 T.base, .int .i64 T.bar, .int .i64 T.saved, .int .i64 T.cents, .int .i64 nb, .int .i64 nt, .int .i64 nc] 44 (0, 0)))
     case first =>
      go_region_held3 (fun w' => w'.cell? ⟨w.1.size + 1 + 1, 0, none⟩ = some (.slice ab nb cb) /\ w'.cell? ⟨w.1.size + 1 + 1, 1, none⟩ = some (.slice at' nt ct) /\ w'.cell? ⟨w.1.size + 1 + 1, 2, none⟩ = some (.slice ac nc cc))
       (first | exact HKP.out _ HG0.out | (simp only [Z8O hne4, Zf9]; exact ⟨l0, l1, l2⟩))
       (fail)
      go_wp2_with fail
      go_meet
      exact ⟨ZhE _ _ _ _ _, Zjo KB8.out⟩
     case rest =>
      obtain ⟨G9, kB9⟩ := hcut
      have q4 := (G9.block (w.1.size + 1 + 1 + 1) (by omega) (by intro e; injection e; omega)).trans KM8.out
      have f0 := Z02 (j := 0) q4; have e0 := cell_of_row _ _ 0 _ _ _ q4; have f1 := Z02 (j := 1) q4; have e1 := cell_of_row _ _ 1 _ _ _ q4; have f2 := Z02 (j := 2) q4; have e2 := cell_of_row _ _ 2 _ _ _ q4; have f3 := Z02 (j := 3) q4; have e3 := cell_of_row _ _ 3 _ _ _ q4; have f4 := Z02 (j := 4) q4; have e4 := cell_of_row _ _ 4 _ _ _ q4; have f5 := Z02 (j := 5) q4; have e5 := cell_of_row _ _ 5 _ _ _ q4; have f6 := Z02 (j := 6) q4; have e6 := cell_of_row _ _ 6 _ _ _ q4; have f7 := Z02 (j := 7) q4; have e7 := cell_of_row _ _ 7 _ _ _ q4; have f8 := Z02 (j := 8) q4; have e8 := cell_of_row _ _ 8 _ _ _ q4; have f9 := Z02 (j := 9) q4; have e9 := cell_of_row _ _ 9 _ _ _ q4; have f10 := Z02 (j := 10) q4; have e10 := cell_of_row _ _ 10 _ _ _ q4; have f11 := Z02 (j := 11) q4; have e11 := cell_of_row _ _ 11 _ _ _ q4
      have d0 := cell_of_row _ _ 0 _ _ _ kB9; have d1 := cell_of_row _ _ 1 _ _ _ kB9; have d2 := cell_of_row _ _ 2 _ _ _ kB9; have d3 := cell_of_row _ _ 3 _ _ _ kB9; have d4 := cell_of_row _ _ 4 _ _ _ kB9; have d5 := cell_of_row _ _ 5 _ _ _ kB9; have d6 := cell_of_row _ _ 6 _ _ _ kB9; have d7 := cell_of_row _ _ 7 _ _ _ kB9; have d8 := cell_of_row _ _ 8 _ _ _ kB9; have d9 := cell_of_row _ _ 9 _ _ _ kB9; have d10 := cell_of_row _ _ 10 _ _ _ kB9; have d11 := cell_of_row _ _ 11 _ _ _ kB9
      have Q4 := Z0 q4
      have HG9 := Z0 G9
      have s9 := G9.size
      clear q4 kB9 G9
      go_wp2_with fail
      refine bodyPost_ret (results_cell_tmp rfl _ _ (w.1.size + 1 + 1 + 1) _ rfl (run_loadVar_row _ _ _ _ _ _ _ (ZhI Q4.out) Tryz.underlying44 rfl (by kernel_rfl))) rfl ?_
      have hb7 := HW7
      have hs7 := hb7.size
      have hw4 : w.1.size + 1 + 1 + 1 < w4.1.size := by omega
      refine ⟨.slice va ls.length vc, ?_, ?_, ?_⟩
      ·rw [HMAN.out]
       rfl
      ·exact Z3N ((hb7.grown HG8.out hs7 (fun r e => by injection e; omega)).grown HG9.out (by omega) (fun r e => by injection e; omega)) (by omega)
      ·rw [HLN.out]
       exact Z5M (((HOW7.out.kept HG8.out (ZbW HOW7.out.lt (by omega))).kept HG9.out (ZbW HOW7.out.lt (by omega))).kept (ZbC _ _ _ _ _ _ _ _ _ _ _ _ _ _) (ZbW HOW7.out.lt (by omega))) (by omega)
end Go.Proofs.YtlgajongmkhcnaaGreatDoor
