import Derived.Test.YtlgajongmkhcnaaGreatDoorQUO
import Derived.Test.YtlgajongmkhcnaaGreatDoorQUR
import Derived.Deep.AppendLies
import Derived.Deep.RegionLaw
import Derived.Deep.RegionHeld3
import Derived.Deep.DrawnRows
set_option maxRecDepth 100000
set_option linter.unusedVariables false
set_option linter.unusedSimpArgs false
set_option maxHeartbeats 32000000
namespace Go.Proofs.YtlgajongmkhcnaaGreatDoor
open Go.RowKit Go.Sort
theorem Z9H {P : Program} {md : Region.Mode} {ops : Array Oper} {Q : Exit -> Act -> World -> Prop} {S : World -> Prop} {fuel : Nat} {listed : Array Bool} {a : Act} {w : World} (i d : Nat) (v : Value) {x1 x2 x3 x4 x5} (hi : ops[i]? = some ⟨some d, x1, x2, x3, x4, x5⟩) (hQ : ∀ c (a : Act) (d : Nat) (v : Value) w, Q (.panic c) (a.put (some d) v) w -> Q (.panic c) a w) (hS : S w)
 (hy : ∀ w', S w' -> (execOp a.eval ⟨some d, x1, x2, x3, x4, x5⟩).run P w' = .ok (.value v) w') (h : wpAnyH P md ops Q S fuel (listed.setIfInBounds i true) (a.put (some d) v) w)
 (hw : Region.wanted ⟨some d, x1, x2, x3, x4, x5⟩ (yielded ops a.tmps) = true := by kernel_rfl) (hs : Region.noSelect ops = true := by kernel_rfl) (hf : Region.free md ops listed i = true := by kernel_rfl) (hr : (Region.ready md ops listed).contains i = true := by kernel_rfl) : wpAnyH P md ops Q S (fuel + 1) listed a w :=
 wpAnyH_take hi hs hf hr (fun _ _ _ h => hQ _ _ _ _ _ h) (Or.inl ⟨hw, hy⟩) hS h
theorem Z70 {w W : World} {e : Nat} {T : TypeId} {k : Nat} (hE : W.1[e]? = some (.cells #[] T (0, 0))) (he : w.1.size <= e) : W.ownsRow w.1.size T k (.slice (some ⟨e, 0, none⟩) 0 0) 0 [] :=
 ⟨by simp, .inr ⟨e, 0, #[], rfl, he, hE, Z1 0, ZE _, by simp, by simp⟩⟩
theorem ZgB {e r n c o : Nat} (er : some r = (Value.slice (some ⟨e, o, none⟩) n c).ownBlock) : r = e := by
 injection er
theorem Z27 {e r n c o B : Nat} (h : B <= e) (er : (Value.slice (some ⟨e, o, none⟩) n c).ownBlock = some r) : B <= r := by
 have := ZgB er.symm
 omega
noncomputable def Z6j : Array Oper := (Tryz.f3.body.bind (Z1p 11)).getD #[]
theorem Zhi (a : Act) (w : World) (Q : Exit -> Act -> World -> Prop) {A g n cv : Nat} {xs : List Ln} {y : Ln} {x1 x2 x3 : Int} (qF : 112 <= a.tmps.size) (hQ : ∀ c (a : Act) (d : Nat) (v : Value) w, Q (.panic c) (a.put (some d) v) w -> Q (.panic c) a w)
 (pA : a.eval (.tmp 20) = .pointer (some ⟨A, 0, none⟩)) (hn : n = xs.length) (h0 : 0 < xs.length) (qI : n <= 100000)
 (hc : ∀ w' : World, Below w.1.size w w' -> w'.cell? ⟨A, 0, none⟩ = some (.slice (some ⟨g, 0, none⟩) n cv) /\ w'.cell? ⟨A, 1, none⟩ = some (.int .i64 y.level) /\ w'.cell? ⟨A, 2, none⟩ = some (.int .i64 y.pieces) /\ w'.cell? ⟨A, 3, none⟩ = some (.int .i64 y.barred) /\ w'.cell? ⟨A, 4, none⟩ = some (.int .i64 y.grams) /\ w'.cell? ⟨A, 5, none⟩ = some (.int .i64 y.base) /\ w'.cell? ⟨A, 6, none⟩ = some (.int .i64 y.bar) /\ w'.cell? ⟨A, 7, none⟩ = some (.int .i64 y.saved) /\ w'.cell? ⟨A, 8, none⟩ = some (.int .i64 y.cents))
 (pS : ∀ w' : World, Below w.1.size w w' -> ∀ j u, (xs.flatMap lnC)[j]? = some u -> w'.cell? ((⟨g, 0, none⟩ : Addr).add j) = some u)
 (pN : ∀ a' g9 cap9 (w9 : World), a'.tmps.size = a.tmps.size -> (∀ n : Nat, n < 102 \/ 112 <= n -> a'.eval (.tmp n) = a.eval (.tmp n)) -> a'.defers = a.defers -> a'.eval (.tmp 109) = .slice (some ⟨g9, 0, none⟩) (n + 1) cap9 -> a'.eval (.tmp 110) = .int .i64 ((n : Int) + 1) -> a'.eval (.tmp 111) = .int .i64 0 -> Below w.1.size w w9 -> w9.ownsRow w.1.size 42 8 (.slice (some ⟨g9, 0, none⟩) (n + 1) cap9) (n + 1) (xs.flatMap lnC ++ lnC y) -> Q .normal a' w9) :
 (Code.region 11 Z6j true).wp Tryz.prog Q a w := by
 have pT : 0 < n := by omega
 have pU : (xs.flatMap lnC).length = n * 8 := by
  rw [hn, List.length_flatMap]
  have : ∀ l : List Ln, (l.map (fun x => (lnC x).length)).sum = l.length * 8 := fun l => by
   induction l with
   | nil => rfl
   | cons x r ih => rw [Kan, Ka7, ih, Ka9, Z5A]; omega
  exact this xs
 have pV : ∀ u ∈ xs.flatMap lnC, u.oneCell' = true := fun u hu => by
  obtain ⟨x, _, hx⟩ := Ka5.1 hu
  unfold lnC at hx
  simp only [Kbf, Kda, or_false] at hx
  rcases hx with rfl | rfl | rfl | rfl | rfl | rfl | rfl | rfl <;> rfl
 have pW : ∀ u ∈ lnC y, u.oneCell' = true := fun u hu => by
  unfold lnC at hu
  simp only [Kbf, Kda, or_false] at hu
  rcases hu with rfl | rfl | rfl | rfl | rfl | rfl | rfl | rfl <;> rfl
 have qJ : 102 < a.tmps.size := (by omega)
 have qK : 103 < a.tmps.size := (by omega)
 have qL : 104 < a.tmps.size := (by omega)
 have qM : 105 < a.tmps.size := (by omega)
 have qN : 106 < a.tmps.size := (by omega)
 have qO : 107 < a.tmps.size := (by omega)
 have qP : 108 < a.tmps.size := (by omega)
 have qQ : 109 < a.tmps.size := (by omega)
 have qR : 110 < a.tmps.size := (by omega)
 have qS : 111 < a.tmps.size := (by omega)
 conv =>
  pattern Z6j
  unfold Z6j
  whnf
 refine wp_region_held_drew (S := fun w' => Below w.1.size w w') (by kernel_rfl) ((Z9 _ w).drew) (fun pB => ?_)
 refine Z9H 1 103 (.pointer (some ⟨A, 0, none⟩)) rfl hQ pB ?_ ?_; rotate_left
 refine Z9H 2 104 (.slice (some ⟨g, 0, none⟩) n cv) rfl hQ pB ?_ ?_; rotate_left
 refine Z9H 4 106 (.pointer (some ⟨A, 1, none⟩)) rfl hQ pB ?_ ?_; rotate_left
 refine Z9H 5 107 (.agg #[.int .i64 y.level, .int .i64 y.pieces, .int .i64 y.barred, .int .i64 y.grams, .int .i64 y.base, .int .i64 y.bar, .int .i64 y.saved, .int .i64 y.cents]) rfl hQ pB ?_ ?_; rotate_left
 refine Z9H 9 111 (.int .i64 0) rfl hQ pB ?_ ?_; rotate_left
 obtain ⟨i0, hi⟩ := info_parts Tryz.infoLine
 obtain ⟨W0, pX⟩ : ∃ X, X = w.drew := ⟨_, rfl⟩
 have pF : Below w.1.size w W0 := by rw [pX]; exact (Z9 _ w).drew
 rw [<- pX]
 clear pX pB
 ·refine wpAnyH_ready (rs := [0, 6]) (by kernel_rfl) (by simp) ?_
  refine Z0i ⟨some 102, .buildSlice 40 0 #[], _, _, _, none⟩ (.slice (some ⟨W0.1.size, 0, none⟩) 0 0) (W0.alloc (.cells #[] 42)) rfl rfl ?_ (pF.alloc pF.size _) ?_ (Z0i ⟨some 108, .buildSlice 40 1 #[(0, .tmp 107)], _, _, _, none⟩ (.slice (some ⟨W0.1.size, 0, none⟩) 1 1) (W0.alloc (.cells #[.int .i64 y.level, .int .i64 y.pieces, .int .i64 y.barred, .int .i64 y.grams, .int .i64 y.base, .int .i64 y.bar, .int .i64 y.saved, .int .i64 y.cents] 42)) rfl rfl ?_ (pF.alloc pF.size _) ?_ AllReadyH.nil)
  ·simp (disch := (first | omega | (simp only [size_put]; omega))) only [execOp, eval_put_ne, Z00, pA]
   go_simp
  ·refine wpAnyH_ready (rs := [3, 6]) (by kernel_rfl) (by simp) ?_
   obtain ⟨W1, pK⟩ : ∃ X, X = W0.alloc (.cells #[] 42) := ⟨_, rfl⟩
   have pD : Below w.1.size w W1 := by rw [pK]; exact pF.alloc pF.size _
   have hE : W1.1[W0.1.size]? = some (.cells #[] 42 (0, 0)) := by rw [pK]; exact Z02 W0 _
   have qG : W1.1.size = W0.1.size + 1 := by rw [pK]; simp
   have pI : w.1.size <= W0.1.size := pF.size
   rw [<- pK]
   refine Z0X ⟨some 105, .call { callee := .builtin .append, args := #[.tmp 102, .tmp 104], argTypes := #[40, 40] }, _, _, _, none⟩ rfl rfl (fun K hK => wp_append_lies W1 (.tmp 102) (.tmp 104) 40 rfl w.1.size 42 i0 (.agg #[.int .i64 0, .int .i64 0, .int .i64 0, .int .i64 0, .int .i64 0, .int .i64 0, .int .i64 0, .int .i64 0]) 8 64 Tryz.underlying40 hi.1 hi.2.1 hi.2.2.1 hi.2.2.2 rfl (by decide) (.slice (some ⟨W0.1.size, 0, none⟩) 0 0) 0 [] ?_ (Z70 hE pI) ⟨g, 0, none⟩ n cv (xs.flatMap lnC) ?_ pU (pS W1 pD) pV pT (by unfold maxLen; omega) (by omega) pD.size _ rfl (fun g3 cap3 W3 pO pJ qA qB => hK _ _ (pD.grown pJ pD.size (fun r er => Z27 pI er)) ?_)) (Z0i ⟨some 108, .buildSlice 40 1 #[(0, .tmp 107)], _, _, _, none⟩ (.slice (some ⟨W1.1.size, 0, none⟩) 1 1) (W1.alloc (.cells #[.int .i64 y.level, .int .i64 y.pieces, .int .i64 y.barred, .int .i64 y.grams, .int .i64 y.base, .int .i64 y.bar, .int .i64 y.saved, .int .i64 y.cents] 42)) rfl rfl ?_ (pD.alloc pD.size _) ?_ AllReadyH.nil)
   ·simp (disch := (first | omega | (simp only [size_put]; omega))) only [eval_put_ne, Z00, pA]
   ·simp (disch := (first | omega | (simp only [size_put]; omega))) only [eval_put_ne, Z00, pA]
   ·have pC := pD.grown pJ pD.size (fun r er => Z27 pI er)
    refine wpAnyH_ready (rs := [6]) (by kernel_rfl) (by simp) ?_
    refine Z0i ⟨some 108, .buildSlice 40 1 #[(0, .tmp 107)], _, _, _, none⟩ (.slice (some ⟨W3.1.size, 0, none⟩) 1 1) (W3.alloc (.cells #[.int .i64 y.level, .int .i64 y.pieces, .int .i64 y.barred, .int .i64 y.grams, .int .i64 y.base, .int .i64 y.bar, .int .i64 y.saved, .int .i64 y.cents] 42)) rfl rfl ?_ (pC.alloc pC.size _) ?_ AllReadyH.nil
    ·simp (disch := (first | omega | (simp only [size_put]; omega))) only [execOp, eval_put_ne, Z00, pA]
     go_simp
    obtain ⟨W4, pP⟩ : ∃ X, X = W3.alloc (.cells #[.int .i64 y.level, .int .i64 y.pieces, .int .i64 y.barred, .int .i64 y.grams, .int .i64 y.base, .int .i64 y.bar, .int .i64 y.saved, .int .i64 y.cents] 42) := ⟨_, rfl⟩
    have pQ : Below w.1.size w W4 := by rw [pP]; exact pC.alloc pC.size _
    have hC : W4.1[W3.1.size]? = some (.cells #[.int .i64 y.level, .int .i64 y.pieces, .int .i64 y.barred, .int .i64 y.grams, .int .i64 y.base, .int .i64 y.bar, .int .i64 y.saved, .int .i64 y.cents] 42 (0, 0)) := by rw [pP]; exact Z02 W3 _
    have qT : W4.1.size = W3.1.size + 1 := by rw [pP]; simp
    have pG : W4.ownsRow w.1.size 42 8 (.slice (some ⟨g3, 0, none⟩) (0 + n) cap3) (0 + n) ([] ++ xs.flatMap lnC) := by rw [pP]; exact pO.alloc _
    rw [<- pP]
    refine wpAnyH_ready (rs := [7]) (by kernel_rfl) (by simp) ?_
    refine Z0X ⟨some 109, .call { callee := .builtin .append, args := #[.tmp 105, .tmp 108], argTypes := #[40, 40] }, _, _, _, none⟩ rfl rfl (fun K hK => wp_append_lies W4 (.tmp 105) (.tmp 108) 40 rfl w.1.size 42 i0 (.agg #[.int .i64 0, .int .i64 0, .int .i64 0, .int .i64 0, .int .i64 0, .int .i64 0, .int .i64 0, .int .i64 0]) 8 64 Tryz.underlying40 hi.1 hi.2.1 hi.2.2.1 hi.2.2.2 rfl (by decide) (.slice (some ⟨g3, 0, none⟩) (0 + n) cap3) (0 + n) ([] ++ xs.flatMap lnC) ?_ pG ⟨W3.1.size, 0, none⟩ 1 1 (lnC y) ?_ (by rfl) (World.news_of_block (cs := #[.int .i64 y.level, .int .i64 y.pieces, .int .i64 y.barred, .int .i64 y.grams, .int .i64 y.base, .int .i64 y.bar, .int .i64 y.saved, .int .i64 y.cents]) (t := 42) (fr := (0, 0)) hC) pW (by omega) (by unfold maxLen; omega) (by omega) pQ.size _ rfl (fun g9 cap9 w9 pR pL qC qD => hK _ _ (pQ.grown pL pQ.size (fun r er => Z27 (pG.lt g3 rfl).1 er)) ?_)) AllReadyH.nil
    ·simp (disch := (first | omega | (simp only [size_put]; omega))) only [eval_put_ne, Z00, pA]
    ·simp (disch := (first | omega | (simp only [size_put]; omega))) only [eval_put_ne, Z00, pA]
    have pM := pQ.grown pL pQ.size (fun r er => Z27 (pG.lt g3 rfl).1 er)
    refine Z9H 8 110 (.int .i64 ((n : Int) + 1)) rfl hQ pM ?_ ?_; rotate_left
    ·refine wpAnyH_done (by kernel_rfl) ?_ _
     refine pN _ g9 cap9 w9 ?_ ?_ ?_ ?_ ?_ ?_ pM (by simpa using pR)
     ·simp only [size_put]
     ·intro n hn
      rcases hn with hn | hn
      all_goals (simp (disch := omega) only [Z0u, eval_put_ne])
     ·simp only [Z0O]
     ·simp (disch := (first | omega | (simp only [size_put]; omega))) only [eval_put_ne, Z00, pA] <;> simp
     ·simp (disch := (first | omega | (simp only [size_put]; omega))) only [eval_put_ne, Z00, pA] <;> simp
     ·simp (disch := (first | omega | (simp only [size_put]; omega))) only [eval_put_ne, Z00, pA] <;> simp
    ·intro w' hS
     simp (disch := (first | omega | (simp only [size_put]; omega))) only [execOp, eval_put_ne, Z00, pA]
     go_simp
     done
   ·simp (disch := (first | omega | (simp only [size_put]; omega))) only [execOp, eval_put_ne, Z00, pA]
    go_simp
   ·refine wpAnyH_ready (rs := [3]) (by kernel_rfl) (by simp) ?_
    obtain ⟨W2, pH⟩ : ∃ X, X = W1.alloc (.cells #[.int .i64 y.level, .int .i64 y.pieces, .int .i64 y.barred, .int .i64 y.grams, .int .i64 y.base, .int .i64 y.bar, .int .i64 y.saved, .int .i64 y.cents] 42) := ⟨_, rfl⟩
    have pE : Below w.1.size w W2 := by rw [pH]; exact pD.alloc pD.size _
    have hC : W2.1[W1.1.size]? = some (.cells #[.int .i64 y.level, .int .i64 y.pieces, .int .i64 y.barred, .int .i64 y.grams, .int .i64 y.base, .int .i64 y.bar, .int .i64 y.saved, .int .i64 y.cents] 42 (0, 0)) := by rw [pH]; exact Z02 W1 _
    have qH : W2.1.size = W1.1.size + 1 := by rw [pH]; simp
    replace hE : W2.1[W0.1.size]? = some (.cells #[] 42 (0, 0)) := by rw [pH]; exact (ZB W1 _ _ (by omega)).trans hE
    rw [<- pH]
    refine Z0X ⟨some 105, .call { callee := .builtin .append, args := #[.tmp 102, .tmp 104], argTypes := #[40, 40] }, _, _, _, none⟩ rfl rfl (fun K hK => wp_append_lies W2 (.tmp 102) (.tmp 104) 40 rfl w.1.size 42 i0 (.agg #[.int .i64 0, .int .i64 0, .int .i64 0, .int .i64 0, .int .i64 0, .int .i64 0, .int .i64 0, .int .i64 0]) 8 64 Tryz.underlying40 hi.1 hi.2.1 hi.2.2.1 hi.2.2.2 rfl (by decide) (.slice (some ⟨W0.1.size, 0, none⟩) 0 0) 0 [] ?_ (Z70 hE pI) ⟨g, 0, none⟩ n cv (xs.flatMap lnC) ?_ pU (pS W2 pE) pV pT (by unfold maxLen; omega) (by omega) pE.size _ rfl (fun g3 cap3 W3 pO pJ qA qB => hK _ _ (pE.grown pJ pE.size (fun r er => Z27 pI er)) ?_)) AllReadyH.nil
    ·simp (disch := (first | omega | (simp only [size_put]; omega))) only [eval_put_ne, Z00, pA]
    ·simp (disch := (first | omega | (simp only [size_put]; omega))) only [eval_put_ne, Z00, pA]
    have pC := pE.grown pJ pE.size (fun r er => Z27 pI er)
    replace hC := (pJ.block W1.1.size (by omega) (fun er => by have er := (ZgB er); omega)).trans hC
    have pG := pO
    refine wpAnyH_ready (rs := [7]) (by kernel_rfl) (by simp) ?_
    refine Z0X ⟨some 109, .call { callee := .builtin .append, args := #[.tmp 105, .tmp 108], argTypes := #[40, 40] }, _, _, _, none⟩ rfl rfl (fun K hK => wp_append_lies W3 (.tmp 105) (.tmp 108) 40 rfl w.1.size 42 i0 (.agg #[.int .i64 0, .int .i64 0, .int .i64 0, .int .i64 0, .int .i64 0, .int .i64 0, .int .i64 0, .int .i64 0]) 8 64 Tryz.underlying40 hi.1 hi.2.1 hi.2.2.1 hi.2.2.2 rfl (by decide) (.slice (some ⟨g3, 0, none⟩) (0 + n) cap3) (0 + n) ([] ++ xs.flatMap lnC) ?_ pG ⟨W1.1.size, 0, none⟩ 1 1 (lnC y) ?_ (by rfl) (World.news_of_block (cs := #[.int .i64 y.level, .int .i64 y.pieces, .int .i64 y.barred, .int .i64 y.grams, .int .i64 y.base, .int .i64 y.bar, .int .i64 y.saved, .int .i64 y.cents]) (t := 42) (fr := (0, 0)) hC) pW (by omega) (by unfold maxLen; omega) (by omega) pC.size _ rfl (fun g9 cap9 w9 pR pL qC qD => hK _ _ (pC.grown pL pC.size (fun r er => Z27 (pG.lt g3 rfl).1 er)) ?_)) AllReadyH.nil
    ·simp (disch := (first | omega | (simp only [size_put]; omega))) only [eval_put_ne, Z00, pA]
    ·simp (disch := (first | omega | (simp only [size_put]; omega))) only [eval_put_ne, Z00, pA]
    have pM := pC.grown pL pC.size (fun r er => Z27 (pG.lt g3 rfl).1 er)
    refine Z9H 8 110 (.int .i64 ((n : Int) + 1)) rfl hQ pM ?_ ?_; rotate_left
    ·refine wpAnyH_done (by kernel_rfl) ?_ _
     refine pN _ g9 cap9 w9 ?_ ?_ ?_ ?_ ?_ ?_ pM (by simpa using pR)
     ·simp only [size_put]
     ·intro n hn
      rcases hn with hn | hn
      all_goals (simp (disch := omega) only [Z0u, eval_put_ne])
     ·simp only [Z0O]
     ·simp (disch := (first | omega | (simp only [size_put]; omega))) only [eval_put_ne, Z00, pA] <;> simp
     ·simp (disch := (first | omega | (simp only [size_put]; omega))) only [eval_put_ne, Z00, pA] <;> simp
     ·simp (disch := (first | omega | (simp only [size_put]; omega))) only [eval_put_ne, Z00, pA] <;> simp
    ·intro w' hS
     simp (disch := (first | omega | (simp only [size_put]; omega))) only [execOp, eval_put_ne, Z00, pA]
     go_simp
     done
  ·simp (disch := (first | omega | (simp only [size_put]; omega))) only [execOp, eval_put_ne, Z00, pA]
   go_simp
  ·refine wpAnyH_ready (rs := [0]) (by kernel_rfl) (by simp) ?_
   obtain ⟨W1, pK⟩ : ∃ X, X = W0.alloc (.cells #[.int .i64 y.level, .int .i64 y.pieces, .int .i64 y.barred, .int .i64 y.grams, .int .i64 y.base, .int .i64 y.bar, .int .i64 y.saved, .int .i64 y.cents] 42) := ⟨_, rfl⟩
   have pD : Below w.1.size w W1 := by rw [pK]; exact pF.alloc pF.size _
   have hC : W1.1[W0.1.size]? = some (.cells #[.int .i64 y.level, .int .i64 y.pieces, .int .i64 y.barred, .int .i64 y.grams, .int .i64 y.base, .int .i64 y.bar, .int .i64 y.saved, .int .i64 y.cents] 42 (0, 0)) := by rw [pK]; exact Z02 W0 _
   have qG : W1.1.size = W0.1.size + 1 := by rw [pK]; simp
   rw [<- pK]
   refine Z0i ⟨some 102, .buildSlice 40 0 #[], _, _, _, none⟩ (.slice (some ⟨W1.1.size, 0, none⟩) 0 0) (W1.alloc (.cells #[] 42)) rfl rfl ?_ (pD.alloc pD.size _) ?_ AllReadyH.nil
   ·simp (disch := (first | omega | (simp only [size_put]; omega))) only [execOp, eval_put_ne, Z00, pA]
    go_simp
   obtain ⟨W2, pH⟩ : ∃ X, X = W1.alloc (.cells #[] 42) := ⟨_, rfl⟩
   have pE : Below w.1.size w W2 := by rw [pH]; exact pD.alloc pD.size _
   have hE : W2.1[W1.1.size]? = some (.cells #[] 42 (0, 0)) := by rw [pH]; exact Z02 W1 _
   have qH : W2.1.size = W1.1.size + 1 := by rw [pH]; simp
   have pI : w.1.size <= W1.1.size := pD.size
   replace hC := (show W2.1[W0.1.size]? = W1.1[W0.1.size]? by rw [pH]; exact ZB W1 _ _ (by omega)).trans hC
   rw [<- pH]
   refine wpAnyH_ready (rs := [3]) (by kernel_rfl) (by simp) ?_
   refine Z0X ⟨some 105, .call { callee := .builtin .append, args := #[.tmp 102, .tmp 104], argTypes := #[40, 40] }, _, _, _, none⟩ rfl rfl (fun K hK => wp_append_lies W2 (.tmp 102) (.tmp 104) 40 rfl w.1.size 42 i0 (.agg #[.int .i64 0, .int .i64 0, .int .i64 0, .int .i64 0, .int .i64 0, .int .i64 0, .int .i64 0, .int .i64 0]) 8 64 Tryz.underlying40 hi.1 hi.2.1 hi.2.2.1 hi.2.2.2 rfl (by decide) (.slice (some ⟨W1.1.size, 0, none⟩) 0 0) 0 [] ?_ (Z70 hE pI) ⟨g, 0, none⟩ n cv (xs.flatMap lnC) ?_ pU (pS W2 pE) pV pT (by unfold maxLen; omega) (by omega) pE.size _ rfl (fun g3 cap3 W3 pO pJ qA qB => hK _ _ (pE.grown pJ pE.size (fun r er => Z27 pI er)) ?_)) AllReadyH.nil
   ·simp (disch := (first | omega | (simp only [size_put]; omega))) only [eval_put_ne, Z00, pA]
   ·simp (disch := (first | omega | (simp only [size_put]; omega))) only [eval_put_ne, Z00, pA]
   have pC := pE.grown pJ pE.size (fun r er => Z27 pI er)
   replace hC := (pJ.block W0.1.size (by omega) (fun er => by have er := (ZgB er); omega)).trans hC
   have pG := pO
   refine wpAnyH_ready (rs := [7]) (by kernel_rfl) (by simp) ?_
   refine Z0X ⟨some 109, .call { callee := .builtin .append, args := #[.tmp 105, .tmp 108], argTypes := #[40, 40] }, _, _, _, none⟩ rfl rfl (fun K hK => wp_append_lies W3 (.tmp 105) (.tmp 108) 40 rfl w.1.size 42 i0 (.agg #[.int .i64 0, .int .i64 0, .int .i64 0, .int .i64 0, .int .i64 0, .int .i64 0, .int .i64 0, .int .i64 0]) 8 64 Tryz.underlying40 hi.1 hi.2.1 hi.2.2.1 hi.2.2.2 rfl (by decide) (.slice (some ⟨g3, 0, none⟩) (0 + n) cap3) (0 + n) ([] ++ xs.flatMap lnC) ?_ pG ⟨W0.1.size, 0, none⟩ 1 1 (lnC y) ?_ (by rfl) (World.news_of_block (cs := #[.int .i64 y.level, .int .i64 y.pieces, .int .i64 y.barred, .int .i64 y.grams, .int .i64 y.base, .int .i64 y.bar, .int .i64 y.saved, .int .i64 y.cents]) (t := 42) (fr := (0, 0)) hC) pW (by omega) (by unfold maxLen; omega) (by omega) pC.size _ rfl (fun g9 cap9 w9 pR pL qC qD => hK _ _ (pC.grown pL pC.size (fun r er => Z27 (pG.lt g3 rfl).1 er)) ?_)) AllReadyH.nil
   ·simp (disch := (first | omega | (simp only [size_put]; omega))) only [eval_put_ne, Z00, pA]
   ·simp (disch := (first | omega | (simp only [size_put]; omega))) only [eval_put_ne, Z00, pA]
   have pM := pC.grown pL pC.size (fun r er => Z27 (pG.lt g3 rfl).1 er)
   refine Z9H 8 110 (.int .i64 ((n : Int) + 1)) rfl hQ pM ?_ ?_; rotate_left
   ·refine wpAnyH_done (by kernel_rfl) ?_ _
    refine pN _ g9 cap9 w9 ?_ ?_ ?_ ?_ ?_ ?_ pM (by simpa using pR)
    ·simp only [size_put]
    ·intro n hn
     rcases hn with hn | hn
     all_goals (simp (disch := omega) only [Z0u, eval_put_ne])
    ·simp only [Z0O]
    ·simp (disch := (first | omega | (simp only [size_put]; omega))) only [eval_put_ne, Z00, pA] <;> simp
    ·simp (disch := (first | omega | (simp only [size_put]; omega))) only [eval_put_ne, Z00, pA] <;> simp
    ·simp (disch := (first | omega | (simp only [size_put]; omega))) only [eval_put_ne, Z00, pA] <;> simp
   ·intro w' hS
    simp (disch := (first | omega | (simp only [size_put]; omega))) only [execOp, eval_put_ne, Z00, pA]
    go_simp
    done
 all_goals (intro w' hS; obtain ⟨c0, c1, c2, c3, c4, c5, c6, c7, c8⟩ := hc w' hS; simp (disch := (first | omega | (simp only [size_put]; omega))) only [execOp, eval_put_ne, Z00, pA]; first | rfl | (go_simp; done))
noncomputable def Z6i : Array Oper := (Tryz.f3.body.bind (Z1p 38)).getD #[]
theorem Zhh (a : Act) (w : World) (Q : Exit -> Act -> World -> Prop) {R b K z : Nat} {u gr : Int} (qF : 257 <= a.tmps.size) (hQ : ∀ c (a : Act) (d : Nat) (v : Value) w, Q (.panic c) (a.put (some d) v) w -> Q (.panic c) a w)
 (pY : a.eval (.tmp 35) = .slice (some ⟨R, 0, none⟩) K K) (pZ : a.eval (.tmp 37) = .pointer (some ⟨b, 0, none⟩)) (hz : z < K) (qE : b ≠ R)
 (pF : w.cell? ⟨b, 0, none⟩ = some (.int .i64 (z : Int))) (pC : w.cell? ⟨b, 3, none⟩ = some (.int .i64 gr)) (hR : w.cell? ⟨R, z, none⟩ = some (.int .i64 u)) (hf : w.frozen? ⟨R, z, none⟩ = false) (hw : IntKind.i64.wrap (u + gr) = u + gr)
 (pN : ∀ a', a'.tmps.size = a.tmps.size -> (∀ n : Nat, n < 248 \/ 257 <= n -> a'.eval (.tmp n) = a.eval (.tmp n)) -> a'.defers = a.defers -> Q .normal a' (w.drew.setCell ⟨R, z, none⟩ (.int .i64 (u + gr)))) :
 (Code.region 38 Z6i true).wp Tryz.prog Q a w := by
 have qU : 248 < a.tmps.size := (by omega)
 have qV : 249 < a.tmps.size := (by omega)
 have qW : 250 < a.tmps.size := (by omega)
 have qX : 251 < a.tmps.size := (by omega)
 have qY : 252 < a.tmps.size := (by omega)
 have qZ : 253 < a.tmps.size := (by omega)
 have rA : 254 < a.tmps.size := (by omega)
 have rB : 255 < a.tmps.size := (by omega)
 have rC : 256 < a.tmps.size := (by omega)
 have rD : w.drew.cell? ⟨R, z, none⟩ = some (.int .i64 u) := hR
 have rE : w.drew.frozen? ⟨R, z, none⟩ = false := hf
 conv =>
  pattern Z6i
  unfold Z6i
  whnf
 refine wp_region_held_drew (S := fun w' => w'.cell? ⟨b, 0, none⟩ = some (.int .i64 (z : Int)) /\ w'.cell? ⟨b, 3, none⟩ = some (.int .i64 gr)) (by kernel_rfl) ⟨pF, pC⟩ (fun pB => ?_)
 refine Z0L 0 248 (.slice (some ⟨R, 0, none⟩) K K) rfl hQ pB ?_ ?_; rotate_left
 refine Z0L 1 249 (.pointer (some ⟨b, 0, none⟩)) rfl hQ pB ?_ ?_; rotate_left
 refine Z0L 2 250 (.int .i64 (z : Int)) rfl hQ pB ?_ ?_; rotate_left
 refine Z0L 3 251 (.pointer (some ⟨R, z, none⟩)) rfl hQ pB ?_ ?_; rotate_left
 refine Z0L 5 253 (.pointer (some ⟨b, 3, none⟩)) rfl hQ pB ?_ ?_; rotate_left
 refine Z0L 6 254 (.int .i64 gr) rfl hQ pB ?_ ?_; rotate_left
 refine wpAnyH_ready (rs := [4]) (by kernel_rfl) (by simp) ?_
 refine Z0i ⟨some 252, .load 3 (.tmp 251), _, _, _, none⟩ (.int .i64 u) w.drew rfl rfl ?_ pB ?_ AllReadyH.nil
 ·simp (disch := (first | omega | (simp only [size_put]; omega))) only [execOp, eval_put_ne, Z00, pY, pZ]
  go_simp
 refine Z0L 7 255 (.int .i64 (u + gr)) rfl hQ pB ?_ ?_; rotate_left
 refine Z0L 8 256 (.pointer (some ⟨R, z, none⟩)) rfl hQ pB ?_ ?_; rotate_left
 refine wpAnyH_ready (rs := [9]) (by kernel_rfl) (by simp) ?_
 refine Z1C ⟨none, .store 3 (.tmp 256) (.tmp 255), _, _, _, none⟩ (w.drew.setCell ⟨R, z, none⟩ (.int .i64 (u + gr))) rfl rfl ?_ ⟨(World.cell?_setCell_far _ _ _ _ qE.symm).trans pB.1, (World.cell?_setCell_far _ _ _ _ qE.symm).trans pB.2⟩ ?_ AllReadyH.nil
 ·simp (disch := (first | omega | (simp only [size_put]; omega))) only [execOp, eval_put_ne, Z00, pY, pZ]
  go_simp
 ·refine wpAnyH_done (by kernel_rfl) ?_ _
  refine pN _ ?_ ?_ ?_
  ·simp only [size_put]
  ·intro n hn
   rcases hn with hn | hn
   all_goals
    (simp (disch := omega) only [Z0u, eval_put_ne])
  ·simp only [Z0O]
 all_goals
  intro w' hS
  obtain ⟨c0, c1⟩ := hS
  simp (disch := (first | omega | (simp only [size_put]; omega))) only [execOp, eval_put_ne, Z00, pY, pZ]
  first
   | (go_simp; done)
   | (go_simp; exact hw)
   | rfl
end Go.Proofs.YtlgajongmkhcnaaGreatDoor
