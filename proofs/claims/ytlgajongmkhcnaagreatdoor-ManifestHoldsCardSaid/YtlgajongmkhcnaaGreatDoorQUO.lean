import Derived.Test.YtlgajongmkhcnaaGreatDoorQUM
import Derived.Deep.AppendLies
import Derived.Deep.RegionLaw
import Derived.Deep.RegionHeld3
import Derived.Deep.DrawnRows
import Derived.Test.YtlgajongmkhcnaaGreatDoorQUK
import Derived.Test.YtlgajongmkhcnaaGreatDoorQUG
import Derived.Test.YtlgajongmkhcnaaGreatDoorQU5
import Derived.Deep.CutBlock
set_option maxRecDepth 100000
set_option linter.unusedVariables false
set_option linter.unusedSimpArgs false
set_option maxHeartbeats 32000000
namespace Go.Proofs.YtlgajongmkhcnaaGreatDoor
open Go.RowKit Go.Sort
theorem Z6O {P : Program} {md : Region.Mode} {ops : Array Oper} {Q : Exit -> Act -> World -> Prop} {S : World -> Prop} {fuel : Nat} {listed : Array Bool} {a : Act} {w : World} {i : Nat} {rs : List Nat} (o : Oper) (f : FuncId) (args : Array Value) (v : Value) (p : World -> Prop) (ho : ops[i]? = some o) (hg : o.guard = none)
 (hr : (execOp a.eval o).run P w = .ok (.enter f args) w) (hc : Calls P f args w fun e w' => e = .returned v /\ p w') (hS : ∀ w', p w' -> S w') (hn : ∀ w', p w' -> wpAnyH P md ops Q S fuel (listed.setIfInBounds i true) (a.put o.dst v) w')
 (hs : AllReadyH P md ops Q S fuel listed a w rs) : AllReadyH P md ops Q S fuel listed a w (i :: rs) := AllReadyH.cons ho (fun K' hK => by
 rw [if_pos (by simp [Region.wanted, hg])]
 unfold Oper.wp
 rw [hr]
 refine Calls.mono hc ?_
 rintro e w' ⟨rfl, hp⟩
 exact hK.out _ _ (hS w' hp) (fun _ => hn w' hp)) hs
noncomputable def Z6l : Array Oper := (Tryz.f9.body.bind (Z1p 15)).getD #[]
theorem Zhk (a : Act) (w : World) (Q : Exit -> Act -> World -> Prop) {PB : Nat} {pr c s z m1 m2 m3 m4 : Int} {X bn fc base : Nat} {fa : Option Addr} {xs : List Value} (tI : 73 <= a.tmps.size) (hQ : ∀ c (a : Act) (d : Nat) (v : Value) w, Q (.panic c) (a.put (some d) v) w -> Q (.panic c) a w)
 (h6 : a.eval (.tmp 6) = .func (.func 24) #[] #[.pointer (some ⟨PB, 0, none⟩)]) (h8 : a.eval (.tmp 8) = .int .i64 c) (pB : a.eval (.tmp 10) = .int .i64 s) (pC : a.eval (.tmp 11) = .pointer (some ⟨X, 0, none⟩)) (pD : a.eval (.tmp 12) = .int .i64 z) (uU : IntKind.i64.wrap (17 * c) = m1) (tJ : IntKind.i64.wrap (5 * s) = m2) (uV : IntKind.i64.wrap (m1 + m2) = m3) (uW : IntKind.i64.wrap (m3 + z) = m4)
 (qG : ∀ W : World, Below w.1.size w W -> W.1.size = w.1.size -> Calls Tryz.prog 24 #[.int .i64 m4, .pointer (some ⟨PB, 0, none⟩)] W fun e w' => e = .returned (.int .i64 pr) /\ (Below w.1.size w w' /\ w'.1.size = w.1.size))
 (pN : w.cell? ⟨X, 1, none⟩ = some (.slice fa bn fc)) (pQ : w.frozen? ⟨X, 1, none⟩ = false) (hX : X < w.1.size)
 (qA : ∀ v ∈ ([.int .i64 pr] : List Value), v.oneCell' = true) (qB : w.ownsRow base 3 1 (.slice fa bn fc) bn xs) (tK : base <= w.1.size) (qC : (Value.slice fa bn fc).ownBlock ≠ some X) (pV : bn <= 100000)
 (qD : ∀ a' g9 cap9 (W w9 : World), a'.tmps.size = a.tmps.size -> (∀ n : Nat, n < 59 \/ 73 <= n -> a'.eval (.tmp n) = a.eval (.tmp n)) -> a'.defers = a.defers -> Below w.1.size w W -> W.1.size = w.1.size -> w9.ownsRow base 3 1 (.slice (some ⟨g9, 0, none⟩) (bn + 1) cap9) (bn + 1) (xs ++ [.int .i64 pr]) -> (W.alloc (.cells #[.int .i64 pr] 3)).grownBy w9 (Value.slice fa bn fc).ownBlock -> ((Value.slice fa bn fc).ownBlock = some g9 \/ g9 = w.1.size + 1) -> Q .normal a' (w9.setCell ⟨X, 1, none⟩ (.slice (some ⟨g9, 0, none⟩) (bn + 1) cap9))) :
 (Code.region 15 Z6l true).wp Tryz.prog Q a w := by
 have uX : 59 < a.tmps.size := (by omega); have uY : 60 < a.tmps.size := (by omega); have uZ : 61 < a.tmps.size := (by omega); have vA : 62 < a.tmps.size := (by omega); have vB : 63 < a.tmps.size := (by omega); have vC : 64 < a.tmps.size := (by omega); have vD : 65 < a.tmps.size := (by omega); have vE : 66 < a.tmps.size := (by omega); have vF : 67 < a.tmps.size := (by omega); have vG : 68 < a.tmps.size := (by omega); have vH : 69 < a.tmps.size := (by omega); have vI : 70 < a.tmps.size := (by omega); have vJ : 71 < a.tmps.size := (by omega); have vK : 72 < a.tmps.size := (by omega)
 obtain ⟨i0, hi⟩ := info_parts ZfO
 conv =>
  pattern Z6l
  unfold Z6l
  whnf
 refine wp_region_held_drew (S := fun w' => True) (by kernel_rfl) (True.intro) (fun pF => ?_)
 have pK : Below w.1.size w w.drew := (Z9 _ w).drew
 have pE : w.drew.1.size = w.1.size := rfl
 refine Z0L 0 59 (.pointer (some ⟨X, 1, none⟩)) rfl hQ pF ?_ ?_; rotate_left
 refine Z0L 2 61 (.func (.func 24) #[] #[.pointer (some ⟨PB, 0, none⟩)]) rfl hQ pF ?_ ?_; rotate_left
 refine Z0L 3 62 (.int .i64 c) rfl hQ pF ?_ ?_; rotate_left
 refine Z0L 4 63 (.int .i64 m1) rfl hQ pF ?_ ?_; rotate_left
 refine Z0L 5 64 (.int .i64 s) rfl hQ pF ?_ ?_; rotate_left
 refine Z0L 6 65 (.int .i64 m2) rfl hQ pF ?_ ?_; rotate_left
 refine Z0L 7 66 (.int .i64 m3) rfl hQ pF ?_ ?_; rotate_left
 refine Z0L 8 67 (.int .i64 z) rfl hQ pF ?_ ?_; rotate_left
 refine Z0L 9 68 (.int .i64 m4) rfl hQ pF ?_ ?_; rotate_left
 refine wpAnyH_ready (rs := [1, 10]) (by kernel_rfl) (by simp) ?_
 refine Z0i ⟨some 60, .load 35 (.tmp 59), _, _, _, none⟩ (.slice fa bn fc) w.drew rfl rfl ?_ (True.intro) ?_ (Z6O ⟨some 69, .call { callee := .value (.tmp 61), args := #[.tmp 68], argTypes := #[3] }, _, _, _, none⟩ 24 #[.int .i64 m4, .pointer (some ⟨PB, 0, none⟩)] (.int .i64 pr) (fun w' => Below w.1.size w w' /\ w'.1.size = w.1.size) rfl rfl ?_ (qG _ pK pE) (fun WC hC => True.intro) (fun WC hC => ?_) AllReadyH.nil); rotate_left
 ·refine wpAnyH_ready (rs := [10]) (by kernel_rfl) (by simp) ?_
  refine Z6O ⟨some 69, .call { callee := .value (.tmp 61), args := #[.tmp 68], argTypes := #[3] }, _, _, _, none⟩ 24 #[.int .i64 m4, .pointer (some ⟨PB, 0, none⟩)] (.int .i64 pr) (fun w' => Below w.1.size w w' /\ w'.1.size = w.1.size) rfl rfl ?_ (qG _ pK pE) (fun WC hC => True.intro) (fun WC hC => ?_) AllReadyH.nil; rotate_left
  ·obtain ⟨pO, pG⟩ := hC
   have tL : WC.cell? ⟨X, 1, none⟩ = some (.slice fa bn fc) := (pO.cell (p := ⟨X, 1, none⟩) hX).trans pN
   have tM : X < WC.1.size := by rw [pG]; exact hX
   refine wpAnyH_ready (rs := [11]) (by kernel_rfl) (by simp) ?_
   refine Z0i ⟨some 70, .buildSlice 35 1 #[(0, .tmp 69)], _, _, _, none⟩ (.slice (some ⟨WC.1.size, 0, none⟩) 1 1) (WC.alloc (.cells #[.int .i64 pr] 3)) rfl rfl ?_ (True.intro) ?_ AllReadyH.nil; rotate_left
   ·refine wpAnyH_ready (rs := [12]) (by kernel_rfl) (by simp) ?_
    refine Z0X ⟨some 71, .call { callee := .builtin .append, args := #[.tmp 60, .tmp 70], argTypes := #[35, 35] }, _, _, _, none⟩ rfl rfl (fun K hK => wp_append_lies (WC.alloc (.cells #[.int .i64 pr] 3)) (.tmp 60) (.tmp 70) 35 rfl base 3 i0 (.int .i64 0) 1 8 Tryz.underlying35 hi.1 hi.2.1 hi.2.2.1 hi.2.2.2 rfl (by decide) (.slice fa bn fc) bn xs ?_ ((qB.kept (row := none) (Z0a pO) (Kbm _)).alloc _) ⟨WC.1.size, 0, none⟩ 1 1 [.int .i64 pr] ?_ (by rfl) (World.news_of_block (cs := #[.int .i64 pr]) (t := 3) (fr := (0, 0)) (heap_alloc_new WC _)) qA (by omega) (by unfold maxLen; omega) (by omega) ?_ _ rfl (fun g9 cap9 w9 pL pA pP qP => hK _ _ (True.intro) ?_)) AllReadyH.nil
    rotate_left; rotate_left
    ·rw [Z6, pG]
     omega
    have pM : w9.1[X]? = w.1[X]? := (pA.block X (by rw [Z6, pG]; omega) (fun e => qC e.symm)).trans ((ZB WC _ _ (by rw [pG]; exact hX)).trans ((pO).block X hX))
    have c9 : w9.cell? ⟨X, 1, none⟩ = some (.slice fa bn fc) := (Kak (w := w) pM).trans pN
    have f9 : w9.frozen? ⟨X, 1, none⟩ = false := (Kbj (w := w) pM).trans pQ
    refine Z0L 13 72 (.pointer (some ⟨X, 1, none⟩)) rfl hQ True.intro ?_ ?_; rotate_left
    refine wpAnyH_ready (rs := [14]) (by kernel_rfl) (by simp) ?_
    refine Z1C ⟨none, .store 35 (.tmp 72) (.tmp 71), _, _, _, none⟩ (w9.setCell ⟨X, 1, none⟩ (.slice (some ⟨g9, 0, none⟩) (bn + 1) cap9)) rfl rfl ?_ (True.intro) ?_ AllReadyH.nil; rotate_left
    refine wpAnyH_done (by kernel_rfl) ?_ _
    refine qD _ g9 cap9 WC w9 ?_ ?_ ?_ pO pG pL pA (pP.imp id (fun h => h.trans (by rw [Z6, pG])))
    ·simp only [size_put]
    ·intro n hn
     rcases hn with hn | hn
     all_goals
      (simp (disch := omega) only [Z0u, eval_put_ne])
    ·simp only [Z0O]
    all_goals first | (intro w' hS; have hS' := hS; simp (disch := (first | omega | (simp only [size_put]; omega))) only [execOp, eval_put_ne, Z00, h6, h8, pB, pC, pD]; first | rfl | (go_simp; done)) | (simp (disch := (first | omega | (simp only [size_put]; omega))) only [execOp, eval_put_ne, Z00, h6, h8, pB, pC, pD]; done) | (simp (disch := (first | omega | (simp only [size_put]; omega))) only [execOp, eval_put_ne, Z00, h6, h8, pB, pC, pD]; go_simp; done)
   all_goals first | (intro w' hS; have hS' := hS; simp (disch := (first | omega | (simp only [size_put]; omega))) only [execOp, eval_put_ne, Z00, h6, h8, pB, pC, pD]; first | rfl | (go_simp; done)) | (simp (disch := (first | omega | (simp only [size_put]; omega))) only [execOp, eval_put_ne, Z00, h6, h8, pB, pC, pD]; done) | (simp (disch := (first | omega | (simp only [size_put]; omega))) only [execOp, eval_put_ne, Z00, h6, h8, pB, pC, pD]; go_simp; done)
  all_goals first | (intro w' hS; have hS' := hS; simp (disch := (first | omega | (simp only [size_put]; omega))) only [execOp, eval_put_ne, Z00, h6, h8, pB, pC, pD]; first | rfl | (go_simp; done)) | (simp (disch := (first | omega | (simp only [size_put]; omega))) only [execOp, eval_put_ne, Z00, h6, h8, pB, pC, pD]; done) | (simp (disch := (first | omega | (simp only [size_put]; omega))) only [execOp, eval_put_ne, Z00, h6, h8, pB, pC, pD]; go_simp; done)
 rotate_left
 ·obtain ⟨pO, pG⟩ := hC
  have tL : WC.cell? ⟨X, 1, none⟩ = some (.slice fa bn fc) := (pO.cell (p := ⟨X, 1, none⟩) hX).trans pN
  have tM : X < WC.1.size := by rw [pG]; exact hX
  refine wpAnyH_ready (rs := [1, 11]) (by kernel_rfl) (by simp) ?_
  refine Z0i ⟨some 60, .load 35 (.tmp 59), _, _, _, none⟩ (.slice fa bn fc) WC rfl rfl ?_ (True.intro) ?_ (Z0i ⟨some 70, .buildSlice 35 1 #[(0, .tmp 69)], _, _, _, none⟩ (.slice (some ⟨WC.1.size, 0, none⟩) 1 1) (WC.alloc (.cells #[.int .i64 pr] 3)) rfl rfl ?_ (True.intro) ?_ AllReadyH.nil); rotate_left
  ·refine wpAnyH_ready (rs := [11]) (by kernel_rfl) (by simp) ?_
   refine Z0i ⟨some 70, .buildSlice 35 1 #[(0, .tmp 69)], _, _, _, none⟩ (.slice (some ⟨WC.1.size, 0, none⟩) 1 1) (WC.alloc (.cells #[.int .i64 pr] 3)) rfl rfl ?_ (True.intro) ?_ AllReadyH.nil; rotate_left
   ·refine wpAnyH_ready (rs := [12]) (by kernel_rfl) (by simp) ?_
    refine Z0X ⟨some 71, .call { callee := .builtin .append, args := #[.tmp 60, .tmp 70], argTypes := #[35, 35] }, _, _, _, none⟩ rfl rfl (fun K hK => wp_append_lies (WC.alloc (.cells #[.int .i64 pr] 3)) (.tmp 60) (.tmp 70) 35 rfl base 3 i0 (.int .i64 0) 1 8 Tryz.underlying35 hi.1 hi.2.1 hi.2.2.1 hi.2.2.2 rfl (by decide) (.slice fa bn fc) bn xs ?_ ((qB.kept (row := none) (Z0a pO) (Kbm _)).alloc _) ⟨WC.1.size, 0, none⟩ 1 1 [.int .i64 pr] ?_ (by rfl) (World.news_of_block (cs := #[.int .i64 pr]) (t := 3) (fr := (0, 0)) (heap_alloc_new WC _)) qA (by omega) (by unfold maxLen; omega) (by omega) ?_ _ rfl (fun g9 cap9 w9 pL pA pP qP => hK _ _ (True.intro) ?_)) AllReadyH.nil
    rotate_left; rotate_left
    ·rw [Z6, pG]
     omega
    have pM : w9.1[X]? = w.1[X]? := (pA.block X (by rw [Z6, pG]; omega) (fun e => qC e.symm)).trans ((ZB WC _ _ (by rw [pG]; exact hX)).trans ((pO).block X hX))
    have c9 : w9.cell? ⟨X, 1, none⟩ = some (.slice fa bn fc) := (Kak (w := w) pM).trans pN
    have f9 : w9.frozen? ⟨X, 1, none⟩ = false := (Kbj (w := w) pM).trans pQ
    refine Z0L 13 72 (.pointer (some ⟨X, 1, none⟩)) rfl hQ True.intro ?_ ?_; rotate_left
    refine wpAnyH_ready (rs := [14]) (by kernel_rfl) (by simp) ?_
    refine Z1C ⟨none, .store 35 (.tmp 72) (.tmp 71), _, _, _, none⟩ (w9.setCell ⟨X, 1, none⟩ (.slice (some ⟨g9, 0, none⟩) (bn + 1) cap9)) rfl rfl ?_ (True.intro) ?_ AllReadyH.nil; rotate_left
    refine wpAnyH_done (by kernel_rfl) ?_ _
    refine qD _ g9 cap9 WC w9 ?_ ?_ ?_ pO pG pL pA (pP.imp id (fun h => h.trans (by rw [Z6, pG])))
    ·simp only [size_put]
    ·intro n hn
     rcases hn with hn | hn
     all_goals
      (simp (disch := omega) only [Z0u, eval_put_ne])
    ·simp only [Z0O]
    all_goals first | (intro w' hS; have hS' := hS; simp (disch := (first | omega | (simp only [size_put]; omega))) only [execOp, eval_put_ne, Z00, h6, h8, pB, pC, pD]; first | rfl | (go_simp; done)) | (simp (disch := (first | omega | (simp only [size_put]; omega))) only [execOp, eval_put_ne, Z00, h6, h8, pB, pC, pD]; done) | (simp (disch := (first | omega | (simp only [size_put]; omega))) only [execOp, eval_put_ne, Z00, h6, h8, pB, pC, pD]; go_simp; done)
   all_goals first | (intro w' hS; have hS' := hS; simp (disch := (first | omega | (simp only [size_put]; omega))) only [execOp, eval_put_ne, Z00, h6, h8, pB, pC, pD]; first | rfl | (go_simp; done)) | (simp (disch := (first | omega | (simp only [size_put]; omega))) only [execOp, eval_put_ne, Z00, h6, h8, pB, pC, pD]; done) | (simp (disch := (first | omega | (simp only [size_put]; omega))) only [execOp, eval_put_ne, Z00, h6, h8, pB, pC, pD]; go_simp; done)
  rotate_left
  ·refine wpAnyH_ready (rs := [1]) (by kernel_rfl) (by simp) ?_
   refine Z0i ⟨some 60, .load 35 (.tmp 59), _, _, _, none⟩ (.slice fa bn fc) (WC.alloc (.cells #[.int .i64 pr] 3)) rfl rfl ?_ (True.intro) ?_ AllReadyH.nil; rotate_left
   ·refine wpAnyH_ready (rs := [12]) (by kernel_rfl) (by simp) ?_
    refine Z0X ⟨some 71, .call { callee := .builtin .append, args := #[.tmp 60, .tmp 70], argTypes := #[35, 35] }, _, _, _, none⟩ rfl rfl (fun K hK => wp_append_lies (WC.alloc (.cells #[.int .i64 pr] 3)) (.tmp 60) (.tmp 70) 35 rfl base 3 i0 (.int .i64 0) 1 8 Tryz.underlying35 hi.1 hi.2.1 hi.2.2.1 hi.2.2.2 rfl (by decide) (.slice fa bn fc) bn xs ?_ ((qB.kept (row := none) (Z0a pO) (Kbm _)).alloc _) ⟨WC.1.size, 0, none⟩ 1 1 [.int .i64 pr] ?_ (by rfl) (World.news_of_block (cs := #[.int .i64 pr]) (t := 3) (fr := (0, 0)) (heap_alloc_new WC _)) qA (by omega) (by unfold maxLen; omega) (by omega) ?_ _ rfl (fun g9 cap9 w9 pL pA pP qP => hK _ _ (True.intro) ?_)) AllReadyH.nil
    rotate_left; rotate_left
    ·rw [Z6, pG]
     omega
    have pM : w9.1[X]? = w.1[X]? := (pA.block X (by rw [Z6, pG]; omega) (fun e => qC e.symm)).trans ((ZB WC _ _ (by rw [pG]; exact hX)).trans ((pO).block X hX))
    have c9 : w9.cell? ⟨X, 1, none⟩ = some (.slice fa bn fc) := (Kak (w := w) pM).trans pN
    have f9 : w9.frozen? ⟨X, 1, none⟩ = false := (Kbj (w := w) pM).trans pQ
    refine Z0L 13 72 (.pointer (some ⟨X, 1, none⟩)) rfl hQ True.intro ?_ ?_; rotate_left
    refine wpAnyH_ready (rs := [14]) (by kernel_rfl) (by simp) ?_
    refine Z1C ⟨none, .store 35 (.tmp 72) (.tmp 71), _, _, _, none⟩ (w9.setCell ⟨X, 1, none⟩ (.slice (some ⟨g9, 0, none⟩) (bn + 1) cap9)) rfl rfl ?_ (True.intro) ?_ AllReadyH.nil; rotate_left
    refine wpAnyH_done (by kernel_rfl) ?_ _
    refine qD _ g9 cap9 WC w9 ?_ ?_ ?_ pO pG pL pA (pP.imp id (fun h => h.trans (by rw [Z6, pG])))
    ·simp only [size_put]
    ·intro n hn
     rcases hn with hn | hn
     all_goals
      (simp (disch := omega) only [Z0u, eval_put_ne])
    ·simp only [Z0O]
    all_goals first | (intro w' hS; have hS' := hS; simp (disch := (first | omega | (simp only [size_put]; omega))) only [execOp, eval_put_ne, Z00, h6, h8, pB, pC, pD]; first | rfl | (go_simp; done)) | (simp (disch := (first | omega | (simp only [size_put]; omega))) only [execOp, eval_put_ne, Z00, h6, h8, pB, pC, pD]; done) | (simp (disch := (first | omega | (simp only [size_put]; omega))) only [execOp, eval_put_ne, Z00, h6, h8, pB, pC, pD]; go_simp; done)
   all_goals first | (intro w' hS; have hS' := hS; simp (disch := (first | omega | (simp only [size_put]; omega))) only [execOp, eval_put_ne, Z00, h6, h8, pB, pC, pD]; first | rfl | (go_simp; done)) | (simp (disch := (first | omega | (simp only [size_put]; omega))) only [execOp, eval_put_ne, Z00, h6, h8, pB, pC, pD]; done) | (simp (disch := (first | omega | (simp only [size_put]; omega))) only [execOp, eval_put_ne, Z00, h6, h8, pB, pC, pD]; go_simp; done)
  all_goals first | (intro w' hS; have hS' := hS; simp (disch := (first | omega | (simp only [size_put]; omega))) only [execOp, eval_put_ne, Z00, h6, h8, pB, pC, pD]; first | rfl | (go_simp; done)) | (simp (disch := (first | omega | (simp only [size_put]; omega))) only [execOp, eval_put_ne, Z00, h6, h8, pB, pC, pD]; done) | (simp (disch := (first | omega | (simp only [size_put]; omega))) only [execOp, eval_put_ne, Z00, h6, h8, pB, pC, pD]; go_simp; done)
 all_goals first | (intro w' hS; have vL := hS; simp (disch := (first | omega | (simp only [size_put]; omega))) only [execOp, eval_put_ne, Z00, h6, h8, pB, pC, pD]; first | rfl | (go_simp; done)) | (simp (disch := (first | omega | (simp only [size_put]; omega))) only [execOp, eval_put_ne, Z00, h6, h8, pB, pC, pD]; done) | (simp (disch := (first | omega | (simp only [size_put]; omega))) only [execOp, eval_put_ne, Z00, h6, h8, pB, pC, pD]; go_simp; done)
theorem Tryz.infoZone : (Tryz.prog.info? 93).map (fun i => (i.zero, i.size, i.bytes)) = some (some (.agg #[.string ⟨#[]⟩, .string ⟨#[]⟩, .int .i64 0]), 3, 40) := by kernel_rfl
noncomputable def Z6k : Array Oper := (Tryz.f9.body.bind (Z1p 22)).getD #[]
theorem Zhj (a : Act) (w : World) (Q : Exit -> Act -> World -> Prop) {Z : Nat} {fr tl : ByteArray} {zn zs i rm : Int} {X bn fc base : Nat} {fa : Option Addr} {xs : List Value} (tI : 121 <= a.tmps.size) (hQ : ∀ c (a : Act) (d : Nat) (v : Value) w, Q (.panic c) (a.put (some d) v) w -> Q (.panic c) a w)
 (h5 : a.eval (.tmp 5) = .int .i64 zs) (h7 : a.eval (.tmp 7) = .pointer (some ⟨X, 0, none⟩)) (pH : a.eval (.tmp 13) = .int .i64 i) (pI : a.eval (.tmp 14) = .pointer (some ⟨Z, 0, none⟩)) (vM : ¬ zs = 0) (rD : i.tmod zs = rm) (vN : IntKind.i64.wrap rm = rm) (tJ : IntKind.i64.wrap (1 + rm) = zn)
 (qQ : w.cell? ⟨Z, 0, none⟩ = some (.string fr)) (qR : w.cell? ⟨Z, 1, none⟩ = some (.string tl)) (qS : Z ≠ X) (rE : Z < w.1.size) (tN : (Value.slice fa bn fc).ownBlock ≠ some Z)
 (pN : w.cell? ⟨X, 1, none⟩ = some (.slice fa bn fc)) (pQ : w.frozen? ⟨X, 1, none⟩ = false) (hX : X < w.1.size)
 (qA : ∀ v ∈ ([.string fr, .string tl, .int .i64 zn] : List Value), v.oneCell' = true) (qB : w.ownsRow base 93 3 (.slice fa bn fc) bn xs) (tK : base <= w.1.size) (qC : (Value.slice fa bn fc).ownBlock ≠ some X) (pV : bn <= 100000)
 (qD : ∀ a' g9 cap9 (W w9 : World), a'.tmps.size = a.tmps.size -> (∀ n : Nat, n < 107 \/ 121 <= n -> a'.eval (.tmp n) = a.eval (.tmp n)) -> a'.defers = a.defers -> Below w.1.size w W -> W.1.size = w.1.size -> w9.ownsRow base 93 3 (.slice (some ⟨g9, 0, none⟩) (bn + 1) cap9) (bn + 1) (xs ++ [.string fr, .string tl, .int .i64 zn]) -> (W.alloc (.cells #[.string fr, .string tl, .int .i64 zn] 93)).grownBy w9 (Value.slice fa bn fc).ownBlock -> ((Value.slice fa bn fc).ownBlock = some g9 \/ g9 = w.1.size + 1) -> Q .normal a' (w9.setCell ⟨X, 1, none⟩ (.slice (some ⟨g9, 0, none⟩) (bn + 1) cap9))) :
 (Code.region 22 Z6k true).wp Tryz.prog Q a w := by
 have vO : 107 < a.tmps.size := (by omega); have vP : 108 < a.tmps.size := (by omega); have vQ : 109 < a.tmps.size := (by omega); have vR : 110 < a.tmps.size := (by omega); have vS : 111 < a.tmps.size := (by omega); have vT : 112 < a.tmps.size := (by omega); have vU : 113 < a.tmps.size := (by omega); have vV : 114 < a.tmps.size := (by omega); have vW : 115 < a.tmps.size := (by omega); have vX : 116 < a.tmps.size := (by omega); have vY : 117 < a.tmps.size := (by omega); have vZ : 118 < a.tmps.size := (by omega); have wD : 119 < a.tmps.size := (by omega); have wE : 120 < a.tmps.size := (by omega)
 have rF : (w.drew.alloc (.cells #[.string fr, .string tl, .int .i64 zn] 93)).cell? ⟨Z, 0, none⟩ = some (.string fr) /\ (w.drew.alloc (.cells #[.string fr, .string tl, .int .i64 zn] 93)).cell? ⟨Z, 1, none⟩ = some (.string tl) := ⟨(Kak (w := w) (ZB w.drew _ _ rE)).trans qQ, (Kak (w := w) (ZB w.drew _ _ rE)).trans qR⟩
 have pW : ∀ w9 : World, (w.drew.alloc (.cells #[.string fr, .string tl, .int .i64 zn] 93)).grownBy w9 (Value.slice fa bn fc).ownBlock -> w9.cell? ⟨Z, 0, none⟩ = some (.string fr) /\ w9.cell? ⟨Z, 1, none⟩ = some (.string tl) := fun w9 hg => by
  have hb : w9.1[Z]? = w.1[Z]? := (hg.block Z (by rw [Z6]; show Z < w.1.size + 1; omega) (fun e => tN e.symm)).trans (ZB w.drew _ _ rE)
  exact ⟨(Kak (w := w) hb).trans qQ, (Kak (w := w) hb).trans qR⟩
 obtain ⟨i0, hi⟩ := info_parts Tryz.infoZone
 conv =>
  pattern Z6k
  unfold Z6k
  whnf
 refine wp_region_held_drew (S := fun w' => w'.cell? ⟨Z, 0, none⟩ = some (.string fr) /\ w'.cell? ⟨Z, 1, none⟩ = some (.string tl)) (by kernel_rfl) (⟨qQ, qR⟩) (fun pF => ?_)
 have pK : Below w.1.size w w.drew := (Z9 _ w).drew
 have pE : w.drew.1.size = w.1.size := rfl
 refine Z0L 0 107 (.pointer (some ⟨X, 1, none⟩)) rfl hQ pF ?_ ?_; rotate_left
 refine Z0L 2 109 (.pointer (some ⟨Z, 0, none⟩)) rfl hQ pF ?_ ?_; rotate_left
 refine Z0L 3 110 (.string fr) rfl hQ pF ?_ ?_; rotate_left
 refine Z0L 4 111 (.pointer (some ⟨Z, 1, none⟩)) rfl hQ pF ?_ ?_; rotate_left
 refine Z0L 5 112 (.string tl) rfl hQ pF ?_ ?_; rotate_left
 refine Z0L 6 113 (.int .i64 i) rfl hQ pF ?_ ?_; rotate_left
 refine Z0L 7 114 (.int .i64 zs) rfl hQ pF ?_ ?_; rotate_left
 refine Z0L 8 115 (.int .i64 rm) rfl hQ pF ?_ ?_; rotate_left
 refine Z0L 9 116 (.int .i64 zn) rfl hQ pF ?_ ?_; rotate_left
 refine Z0L 10 117 (.agg #[.string fr, .string tl, .int .i64 zn]) rfl hQ pF ?_ ?_; rotate_left
 refine wpAnyH_ready (rs := [1, 11]) (by kernel_rfl) (by simp) ?_
 refine Z0i ⟨some 108, .load 27 (.tmp 107), _, _, _, none⟩ (.slice fa bn fc) w.drew rfl rfl ?_ (⟨qQ, qR⟩) ?_ (Z0i ⟨some 118, .buildSlice 27 1 #[(0, .tmp 117)], _, _, _, none⟩ (.slice (some ⟨w.drew.1.size, 0, none⟩) 1 1) (w.drew.alloc (.cells #[.string fr, .string tl, .int .i64 zn] 93)) rfl rfl ?_ (rF) ?_ AllReadyH.nil); rotate_left
 ·refine wpAnyH_ready (rs := [11]) (by kernel_rfl) (by simp) ?_
  refine Z0i ⟨some 118, .buildSlice 27 1 #[(0, .tmp 117)], _, _, _, none⟩ (.slice (some ⟨w.drew.1.size, 0, none⟩) 1 1) (w.drew.alloc (.cells #[.string fr, .string tl, .int .i64 zn] 93)) rfl rfl ?_ (rF) ?_ AllReadyH.nil; rotate_left
  ·refine wpAnyH_ready (rs := [12]) (by kernel_rfl) (by simp) ?_
   refine Z0X ⟨some 119, .call { callee := .builtin .append, args := #[.tmp 108, .tmp 118], argTypes := #[27, 27] }, _, _, _, none⟩ rfl rfl (fun K hK => wp_append_lies (w.drew.alloc (.cells #[.string fr, .string tl, .int .i64 zn] 93)) (.tmp 108) (.tmp 118) 27 rfl base 93 i0 (.agg #[.string ⟨#[]⟩, .string ⟨#[]⟩, .int .i64 0]) 3 40 Tryz.underlying27 hi.1 hi.2.1 hi.2.2.1 hi.2.2.2 rfl (by decide) (.slice fa bn fc) bn xs ?_ ((qB.kept (row := none) (Z0a pK) (Kbm _)).alloc _) ⟨w.drew.1.size, 0, none⟩ 1 1 [.string fr, .string tl, .int .i64 zn] ?_ (by rfl) (World.news_of_block (cs := #[.string fr, .string tl, .int .i64 zn]) (t := 93) (fr := (0, 0)) (heap_alloc_new w.drew _)) qA (by omega) (by unfold maxLen; omega) (by omega) ?_ _ rfl (fun g9 cap9 w9 pL pA pP qP => hK _ _ ((pW w9 pA)) ?_)) AllReadyH.nil
   rotate_left; rotate_left
   ·rw [Z6, pE]
    omega
   have pM : w9.1[X]? = w.1[X]? := (pA.block X (by rw [Z6, pE]; omega) (fun e => qC e.symm)).trans ((ZB w.drew _ _ (by rw [pE]; exact hX)).trans ((pK).block X hX))
   have c9 : w9.cell? ⟨X, 1, none⟩ = some (.slice fa bn fc) := (Kak (w := w) pM).trans pN
   have f9 : w9.frozen? ⟨X, 1, none⟩ = false := (Kbj (w := w) pM).trans pQ
   refine Z0L 13 120 (.pointer (some ⟨X, 1, none⟩)) rfl hQ (pW w9 pA) ?_ ?_; rotate_left
   refine wpAnyH_ready (rs := [14]) (by kernel_rfl) (by simp) ?_
   refine Z1C ⟨none, .store 27 (.tmp 120) (.tmp 119), _, _, _, none⟩ (w9.setCell ⟨X, 1, none⟩ (.slice (some ⟨g9, 0, none⟩) (bn + 1) cap9)) rfl rfl ?_ (⟨(Kak (w := w9) (ZA _ _ _ _ qS)).trans (pW w9 pA).1, (Kak (w := w9) (ZA _ _ _ _ qS)).trans (pW w9 pA).2⟩) ?_ AllReadyH.nil; rotate_left
   refine wpAnyH_done (by kernel_rfl) ?_ _
   refine qD _ g9 cap9 w.drew w9 ?_ ?_ ?_ pK pE pL pA (pP.imp id (fun h => h.trans (by rw [Z6, pE])))
   ·simp only [size_put]
   ·intro n hn
    rcases hn with hn | hn
    all_goals
     (simp (disch := omega) only [Z0u, eval_put_ne])
   ·simp only [Z0O]
   all_goals first | (intro w' hS; obtain ⟨c0, c1⟩ := hS; simp (disch := (first | omega | (simp only [size_put]; omega))) only [execOp, eval_put_ne, Z00, h5, h7, pH, pI]; first | rfl | (go_simp; done)) | (simp (disch := (first | omega | (simp only [size_put]; omega))) only [execOp, eval_put_ne, Z00, h5, h7, pH, pI]; done) | (simp (disch := (first | omega | (simp only [size_put]; omega))) only [execOp, eval_put_ne, Z00, h5, h7, pH, pI]; go_simp; done)
  all_goals first | (intro w' hS; obtain ⟨c0, c1⟩ := hS; simp (disch := (first | omega | (simp only [size_put]; omega))) only [execOp, eval_put_ne, Z00, h5, h7, pH, pI]; first | rfl | (go_simp; done)) | (simp (disch := (first | omega | (simp only [size_put]; omega))) only [execOp, eval_put_ne, Z00, h5, h7, pH, pI]; done) | (simp (disch := (first | omega | (simp only [size_put]; omega))) only [execOp, eval_put_ne, Z00, h5, h7, pH, pI]; go_simp; done)
 rotate_left
 ·refine wpAnyH_ready (rs := [1]) (by kernel_rfl) (by simp) ?_
  refine Z0i ⟨some 108, .load 27 (.tmp 107), _, _, _, none⟩ (.slice fa bn fc) (w.drew.alloc (.cells #[.string fr, .string tl, .int .i64 zn] 93)) rfl rfl ?_ (rF) ?_ AllReadyH.nil; rotate_left
  ·refine wpAnyH_ready (rs := [12]) (by kernel_rfl) (by simp) ?_
   refine Z0X ⟨some 119, .call { callee := .builtin .append, args := #[.tmp 108, .tmp 118], argTypes := #[27, 27] }, _, _, _, none⟩ rfl rfl (fun K hK => wp_append_lies (w.drew.alloc (.cells #[.string fr, .string tl, .int .i64 zn] 93)) (.tmp 108) (.tmp 118) 27 rfl base 93 i0 (.agg #[.string ⟨#[]⟩, .string ⟨#[]⟩, .int .i64 0]) 3 40 Tryz.underlying27 hi.1 hi.2.1 hi.2.2.1 hi.2.2.2 rfl (by decide) (.slice fa bn fc) bn xs ?_ ((qB.kept (row := none) (Z0a pK) (Kbm _)).alloc _) ⟨w.drew.1.size, 0, none⟩ 1 1 [.string fr, .string tl, .int .i64 zn] ?_ (by rfl) (World.news_of_block (cs := #[.string fr, .string tl, .int .i64 zn]) (t := 93) (fr := (0, 0)) (heap_alloc_new w.drew _)) qA (by omega) (by unfold maxLen; omega) (by omega) ?_ _ rfl (fun g9 cap9 w9 pL pA pP qP => hK _ _ ((pW w9 pA)) ?_)) AllReadyH.nil
   rotate_left; rotate_left
   ·rw [Z6, pE]
    omega
   have pM : w9.1[X]? = w.1[X]? := (pA.block X (by rw [Z6, pE]; omega) (fun e => qC e.symm)).trans ((ZB w.drew _ _ (by rw [pE]; exact hX)).trans ((pK).block X hX))
   have c9 : w9.cell? ⟨X, 1, none⟩ = some (.slice fa bn fc) := (Kak (w := w) pM).trans pN
   have f9 : w9.frozen? ⟨X, 1, none⟩ = false := (Kbj (w := w) pM).trans pQ
   refine Z0L 13 120 (.pointer (some ⟨X, 1, none⟩)) rfl hQ (pW w9 pA) ?_ ?_; rotate_left
   refine wpAnyH_ready (rs := [14]) (by kernel_rfl) (by simp) ?_
   refine Z1C ⟨none, .store 27 (.tmp 120) (.tmp 119), _, _, _, none⟩ (w9.setCell ⟨X, 1, none⟩ (.slice (some ⟨g9, 0, none⟩) (bn + 1) cap9)) rfl rfl ?_ (⟨(Kak (w := w9) (ZA _ _ _ _ qS)).trans (pW w9 pA).1, (Kak (w := w9) (ZA _ _ _ _ qS)).trans (pW w9 pA).2⟩) ?_ AllReadyH.nil; rotate_left
   refine wpAnyH_done (by kernel_rfl) ?_ _
   refine qD _ g9 cap9 w.drew w9 ?_ ?_ ?_ pK pE pL pA (pP.imp id (fun h => h.trans (by rw [Z6, pE])))
   ·simp only [size_put]
   ·intro n hn
    rcases hn with hn | hn
    all_goals
     (simp (disch := omega) only [Z0u, eval_put_ne])
   ·simp only [Z0O]
   all_goals first | (intro w' hS; obtain ⟨c0, c1⟩ := hS; simp (disch := (first | omega | (simp only [size_put]; omega))) only [execOp, eval_put_ne, Z00, h5, h7, pH, pI]; first | rfl | (go_simp; done)) | (simp (disch := (first | omega | (simp only [size_put]; omega))) only [execOp, eval_put_ne, Z00, h5, h7, pH, pI]; done) | (simp (disch := (first | omega | (simp only [size_put]; omega))) only [execOp, eval_put_ne, Z00, h5, h7, pH, pI]; go_simp; done)
  all_goals first | (intro w' hS; obtain ⟨c0, c1⟩ := hS; simp (disch := (first | omega | (simp only [size_put]; omega))) only [execOp, eval_put_ne, Z00, h5, h7, pH, pI]; first | rfl | (go_simp; done)) | (simp (disch := (first | omega | (simp only [size_put]; omega))) only [execOp, eval_put_ne, Z00, h5, h7, pH, pI]; done) | (simp (disch := (first | omega | (simp only [size_put]; omega))) only [execOp, eval_put_ne, Z00, h5, h7, pH, pI]; go_simp; done)
 all_goals first | (intro w' hS; obtain ⟨c0, c1⟩ := hS; simp (disch := (first | omega | (simp only [size_put]; omega))) only [execOp, eval_put_ne, Z00, h5, h7, pH, pI]; first | rfl | (go_simp; done)) | (simp (disch := (first | omega | (simp only [size_put]; omega))) only [execOp, eval_put_ne, Z00, h5, h7, pH, pI]; done) | (simp (disch := (first | omega | (simp only [size_put]; omega))) only [execOp, eval_put_ne, Z00, h5, h7, pH, pI]; go_simp; done)
abbrev Z7I (w : World) (base : Nat) (v : Value) (l : List Stp) : Prop := OwnsX 95 2 Z8V (fun s : Stp => s.cents) w base v l
def Z4a (p : Rat × Value) : List Value := [.int .u8 p.1.cls, p.2, .int .i64 p.1.bar]
def OwnsRt (w : World) (base : Nat) (v : Value) (l : List Rat) : Prop :=
 ∃ L : List (Rat × Value), L.map Prod.fst = l /\ (∀ p ∈ L, Z7I w base p.2 p.1.steps) /\ w.ownsRow base 60 3 v L.length (L.flatMap Z4a)
section
variable {w w' : World} {base : Nat} {v : Value} {l : List Rat}
theorem OwnsRt.nil (w : World) (base : Nat) : OwnsRt w base (.slice none 0 0) [] := ⟨[], rfl, by simp, Kbb _ _ _ _⟩
theorem OwnsRt.below (h : OwnsRt w base v l) (hb : Below w.1.size w w') : OwnsRt w' base v l := by
 obtain ⟨L, hL, h1, h2⟩ := h
 exact ⟨L, hL, fun p hp => (h1 p hp).below hb, Z09 h2 hb⟩
theorem OwnsRt.form (h : OwnsRt w base v l) : ∃ a cap, v = .slice a l.length cap := by
 obtain ⟨L, rfl, _, ho⟩ := h
 rw [Z7]
 exact Z0F ho
theorem OwnsRt.beside {row : Option Nat} (h : OwnsRt w base v l) (hg : w.grownBy w' row) (h1 : ∀ g, row = some g -> ∀ cur fr, w.1[g]? ≠ some (.cells cur 60 fr)) (h2 : ∀ g, row = some g -> ∀ cur fr, w.1[g]? ≠ some (.cells cur 95 fr))
 (h3 : ∀ g, row = some g -> ∀ cur fr, w.1[g]? ≠ some (.cells cur 3 fr)) : OwnsRt w' base v l := by
 obtain ⟨L, hL, k1, k2⟩ := h
 exact ⟨L, hL, fun p hp => (k1 p hp).beside hg h2 h3, Z0A k2 hg h1⟩
theorem OwnsRt.rd (h : OwnsRt w base v l) : RdRates w v l := by
 obtain ⟨L, rfl, h1, ho⟩ := h
 obtain ⟨a, c, hv⟩ := Z0F ho
 subst hv
 refine ⟨a, c, by rw [Z7], fun h0 => ?_⟩
 rw [Z7] at h0
 rcases Joins.ownsRow_forms ho with ⟨hv, hp⟩ | ⟨g, cap, hv⟩
 ·omega
 ·injection hv with rG tO tP
  subst rG
  refine ⟨g, 0, rfl, (ho.lt g rfl).2, fun i hi => ?_⟩
  have hi' : i < L.length := by rw [Z7] at hi; exact hi
  have e : (L.map Prod.fst)[i] = (L[i]).1 := by simp
  rw [e]
  have pX : Z3j w (L[i]).2 (L[i]).1.steps := OwnsX.rd (n := 2) (fun _ => rfl) (h1 _ (Z4 hi'))
  have hc : ∀ j, j < 3 -> w.cell? ⟨g, 0 + i * 3 + j, none⟩ = (Z4a L[i])[j]? := fun j hj => by
   rw [Ka0, ho.cellAt _ (by omega), Z3e (n := 3) (fun _ => rfl) L i j hi' hj]
  exact ⟨(L[i]).2, pX, (hc 0 (by omega)).trans rfl, (hc 1 (by omega)).trans rfl, (hc 2 (by omega)).trans rfl⟩
end
theorem ZdA {w w2 : World} {base : Nat} {v v' sv : Value} {L : List (Rat × Value)} {r : Rat} (h1 : ∀ p ∈ L, Z7I w base p.2 p.1.steps) (h2 : Z7I w base sv r.steps) (hO : w.ownsRow base 60 3 v L.length (L.flatMap Z4a)) (hg : w.grownBy w2 v.ownBlock)
 (ho : w2.ownsRow base 60 3 v' (L.length + 1) (L.flatMap Z4a ++ Z4a (r, sv))) : OwnsRt w2 base v' (L.map Prod.fst ++ [r]) := by
 refine ⟨L ++ [(r, sv)], by simp, fun p hp => ?_, ?_⟩
 ·rcases ZG.1 hp with hp | hp
  ·exact (h1 p hp).beside hg (Z0t hO (by decide)) (Z0t hO (by decide))
  ·obtain rfl := ZI.1 hp
   exact h2.beside hg (Z0t hO (by decide)) (Z0t hO (by decide))
 ·rw [Kai, ZC]
  simpa using ho
def znC (z : Zn) : List Value := [.string z.fr, .string z.till, .int .i64 z.zone]
theorem Zca {w : World} {base : Nat} {v : Value} {l : List Zn} (ho : w.ownsRow base 93 3 v l.length (l.flatMap znC)) : RdZones w v l := by
 obtain ⟨a, c, hv⟩ := Z0F ho
 subst hv
 refine ⟨a, c, rfl, fun h0 => ?_⟩
 rcases Joins.ownsRow_forms ho with ⟨hv, hp⟩ | ⟨g, cap, hv⟩
 ·omega
 ·injection hv with rG tO tP
  subst rG
  refine ⟨g, 0, rfl, (ho.lt g rfl).2, fun i hi => ?_⟩
  have hc : ∀ j, j < 3 -> w.cell? ⟨g, 0 + i * 3 + j, none⟩ = (znC l[i])[j]? := fun j hj => by
   rw [Ka0, ho.cellAt _ (by omega), Z3e (n := 3) (fun _ => rfl) l i j hi hj]
  exact ⟨(hc 0 (by omega)).trans rfl, (hc 1 (by omega)).trans rfl, (hc 2 (by omega)).trans rfl⟩
theorem Z5M (a m j : Nat) (ha : a < 4294967296) (hm : m = 2 ^ j - 1) (hj : j <= 32) : bits .and .u32 (a : Int) (m : Int) = ((a % 2 ^ j : Nat) : Int) := by
 have wF : m < 4294967296 := by
  have : 2 ^ j <= 2 ^ 32 := Nat.pow_le_pow_right (by decide) hj
  have h0 : 0 < 2 ^ j := Nat.pow_pos (by decide)
  omega
 have h1 : (BitVec.ofInt 32 (a : Int)).toNat = a := by
  rw [BitVec.ofInt_natCast, BitVec.toNat_ofNat]; exact Kcv (by omega)
 have h2 : (BitVec.ofInt 32 (m : Int)).toNat = m := by
  rw [BitVec.ofInt_natCast, BitVec.toNat_ofNat]; exact Kcv (by omega)
 have hw : ∀ n : Int, IntKind.u32.wrap n = n % 4294967296 := fun n => by simp [IntKind.wrap, IntKind.bits, IntKind.signed]
 show IntKind.u32.wrap ((BitVec.ofInt 32 (a : Int) &&& BitVec.ofInt 32 (m : Int)).toNat : Int) = _
 rw [BitVec.toNat_and, h1, h2, hw, hm, Nat.and_two_pow_sub_one_eq_mod]
 have : a % 2 ^ j <= a := Nat.mod_le _ _
 omega
structure Masks (N : Nat) (n q4 z3 qa ra bb qs rs : Int) : Prop where
 h4 : bits .and .u32 (n / 16) 3 = q4
 t4 : q4.tmod 3 = z3
 z3 : z3 = (Z1x N : Nat) - 1
 ha : bits .and .u32 n 3 = qa
 ta : qa.tmod 3 = ra
 ra : ra = (Z3k N : Nat) - 1
 hb : bits .and .u32 (n / 64) 31 = bb
 bb : bb = (Z2M N : Nat)
 hs : bits .and .u32 (n / 4) 3 = qs
 ts : qs.tmod 3 = rs
 rs : rs = (Z4u N : Nat) - 1
 q : 0 <= q4 /\ q4 <= 3 /\ 0 <= qa /\ qa <= 3 /\ 0 <= qs /\ qs <= 3
 bit : ∀ k : Nat, k < 9 -> decide (0 < bits .and .u32 (n / 2 ^ (11 + k)) 1) = Zie N k
theorem ZfD (N : Nat) (hN : N < 4294967296) : ∃ q4 z3 qa ra bb qs rs, Masks N (N : Int) q4 z3 qa ra bb qs rs := by
 have hd : ∀ d : Nat, (N : Int) / (d : Int) = ((N / d : Nat) : Int) := fun d => by simp
 have hm : ∀ (a : Nat), a < 4294967296 -> bits .and .u32 (a : Int) 3 = ((a % 4 : Nat) : Int) := fun a ha => Z5M a 3 2 ha rfl (by decide)
 have tm : ∀ a : Nat, ((a : Nat) : Int).tmod 3 = ((a % 3 : Nat) : Int) := fun a => by rw [Kbn (Kce _)]; rfl
 refine ⟨((N / 16 % 4 : Nat) : Int), ((N / 16 % 4 % 3 : Nat) : Int), ((N % 4 : Nat) : Int), ((N % 4 % 3 : Nat) : Int), ((N / 64 % 32 : Nat) : Int), ((N / 4 % 4 : Nat) : Int), ((N / 4 % 4 % 3 : Nat) : Int), ?_⟩
 refine ⟨?_, tm _, ?_, hm N hN, tm _, ?_, ?_, rfl, ?_, tm _, ?_, by omega, fun k hk => ?_⟩
 ·rw [show (16 : Int) = ((16 : Nat) : Int) from rfl, hd]; exact hm _ (by omega)
 ·unfold Z1x; omega
 ·unfold Z3k; omega
 ·rw [show (64 : Int) = ((64 : Nat) : Int) from rfl, hd]; exact Z5M _ 31 5 (by omega) rfl (by decide)
 ·rw [show (4 : Int) = ((4 : Nat) : Int) from rfl, hd]; exact hm _ (by omega)
 ·unfold Z4u; omega
 ·have e : ((N : Int) / 2 ^ (11 + k)) = ((N / 2 ^ (11 + k) : Nat) : Int) := by simp
  have qT : N / 2 ^ (11 + k) < 4294967296 := Nat.lt_of_le_of_lt (Nat.div_le_self _ _) hN
  rw [e, show (1 : Int) = ((1 : Nat) : Int) from rfl, Z5M _ 1 1 qT rfl (by decide)]
  unfold Zie
  have h2 := Kcj (N / 2 ^ (11 + k)) (show 0 < 2 by decide)
  by_cases h1 : N / 2 ^ (11 + k) % 2 = 1
  ·rw [Kac h1]
   exact Kac (by rw [show 2 ^ 1 = 2 from rfl, h1]; decide)
  ·rw [Kad h1]
   exact Kad (by rw [show 2 ^ 1 = 2 from rfl]; omega)
theorem Zdz (ps : List UInt8) (N k : Nat) : (List.range (k + 1)).map (Z1i ps N) = (List.range k).map (Z1i ps N) ++ [Z1i ps N k] := by rw [Kaq, ZD]; rfl
theorem Zdn (ps : List UInt8) (Z c k : Nat) : (List.range (k + 1)).map (Z3v ps Z c) = (List.range k).map (Z3v ps Z c) ++ [Z3v ps Z c k] := by rw [Kaq, ZD]; rfl
abbrev ZdD : Array Value := (pairsN.flatMap (fun p => [Value.string p.1, Value.string p.2])).toArray
theorem ZkG {w : World} {g : Nat} {a0 a1 b0 b1 : Value} {t : TypeId} {fr : Nat × Nat} (h : w.1[g]? = some (.cells #[a0, a1] t fr)) : ((w.setCell ⟨g, 0, none⟩ b0).setCell ⟨g, 1, none⟩ b1).1[g]? = some (.cells #[b0, b1] t fr) := by
 simp [World.setCell, Kap, h]
theorem Z8X {w : World} {g : Nat} {a0 a1 b1 : Value} {t : TypeId} {fr : Nat × Nat} (h : w.1[g]? = some (.cells #[a0, a1] t fr)) : (w.setCell ⟨g, 1, none⟩ b1).1[g]? = some (.cells #[a0, b1] t fr) /\ (w.setCell ⟨g, 0, none⟩ b1).1[g]? = some (.cells #[b1, a1] t fr) := by
 simp [World.setCell, Kap, h]
theorem ZiZ {w : World} {g : Nat} {a0 a1 a2 b1 : Value} {t : TypeId} {fr : Nat × Nat} (h : w.1[g]? = some (.cells #[a0, a1, a2] t fr)) : (w.setCell ⟨g, 1, none⟩ b1).1[g]? = some (.cells #[a0, b1, a2] t fr) := by
 simp [World.setCell, Kap, h]
theorem Z0R {w : World} {g : Nat} {cs : Array Value} {t T : TypeId} {fr : Nat × Nat} (h : w.1[g]? = some (.cells cs t fr)) (ht : t ≠ T) : ∀ q, some g = some q -> ∀ cur fr', w.1[q]? ≠ some (.cells cur T fr') := fun q e cur fr' e2 => by
 injection e with e
 rw [<- e, h] at e2
 injection e2 with e2
 injection e2 with e3 e4 e5
 exact ht e4
theorem Z7Y (N k : Nat) : Z0z N (k + 1) = if Zie N k = true then Z0z N k ++ [Zkx (Z1x N) k] else Z0z N k := by
 unfold Z0z
 rw [Kaq, Kb0, ZD]
 cases h : Zie N k
 ·rw [Kbz (by simp [h]), Kbq, Kbe, Ka1]; simp
 ·rw [Kby h, Kbq]; simp
theorem Zel (N : Nat) : ∀ k, (Z0z N k).length <= k + 1 := fun k => by
 unfold Z0z
 have := Kbw (Zie N) (List.range k)
 rw [Kay] at this
 rw [Ka9, Z7]
 omega
theorem Zj8 {k : Nat} (h : k < 9) : ZdD[k * 2]? = some (.string (pairsN.getD k (⟨#[]⟩, ⟨#[]⟩)).1) /\ ZdD[k * 2 + 1]? = some (.string (pairsN.getD k (⟨#[]⟩, ⟨#[]⟩)).2) := by
 have : k = 0 \/ k = 1 \/ k = 2 \/ k = 3 \/ k = 4 \/ k = 5 \/ k = 6 \/ k = 7 \/ k = 8 := by omega
 rcases this with rfl | rfl | rfl | rfl | rfl | rfl | rfl | rfl | rfl <;> exact ⟨rfl, rfl⟩
theorem Tryz.infoStep : (Tryz.prog.info? 95).map (fun i => (i.zero, i.size, i.bytes)) = some (some (.agg #[.int .i64 0, .slice none 0 0]), 2, 32) := by kernel_rfl
theorem Tryz.infoRate : (Tryz.prog.info? 60).map (fun i => (i.zero, i.size, i.bytes)) = some (some (.agg #[.int .u8 0, .slice none 0 0, .int .i64 0]), 3, 40) := by kernel_rfl
theorem ZdT (N : Nat) (ps : List UInt8) (vp : Value) (w : World) (hN : N < 4294967296) (hr : RdBytes w vp ps) (hl : ps.length <= maxLen) :
 Calls Tryz.prog 9 #[.int .u32 (N : Nat), vp] w fun e w' => ∃ a ca b cb, e = .returned (.agg #[.slice a (Z3k N) ca, .slice b (Z0z N 9).length cb]) /\ Below w.1.size w w' /\ RdTar w' (.slice a (Z3k N) ca) (.slice b (Z0z N 9).length cb) (Z1H N ps) := by
 obtain ⟨q4, z3, qa, ra, bb, qs, rs, hm⟩ := ZfD N hN
 obtain ⟨n, hn⟩ : ∃ n : Int, n = (N : Int) := ⟨_, rfl⟩
 rw [<- hn] at hm ⊢
 have HM := Z0 hm
 obtain ⟨e4, t4, e3, ea, ta, era, eb, ebb, es, ts, ers, ⟨u1, u2, u3, u4, u5, u6⟩, tQ⟩ := hm
 clear tQ
 obtain ⟨Z, hZ⟩ : ∃ Z, Z = Z1x N := ⟨_, rfl⟩
 obtain ⟨K, hK⟩ : ∃ K, K = Z3k N := ⟨_, rfl⟩
 obtain ⟨S, hS⟩ : ∃ S, S = Z4u N := ⟨_, rfl⟩
 have tR := Z9C N
 have tS := Z6P N
 have tT := Z6F N
 have wG : 0 <= ((Z2M N : Nat) : Int) /\ ((Z2M N : Nat) : Int) <= 31 := by unfold Z2M; omega
 rw [<- hZ] at e3 tR
 rw [<- hK] at era tS
 rw [<- hS] at ers tT
 have wH : 0 <= n := by omega
 have wI : n < 4294967296 := by omega
 have wJ : IntKind.i64.wrap (1 + z3) = (Z : Int) := by simp [IntKind.wrap, IntKind.bits, IntKind.signed]; omega
 have wK : 0 <= z3 /\ z3 <= 2 := by omega
 have wL : 0 <= ra /\ ra <= 2 := by omega
 have wM : 0 <= rs /\ rs <= 2 := by omega
 have wN : 0 <= bb /\ bb <= 31 := by omega
 have HZ := Z0 hZ
 have HK := Z0 hK
 have HS := Z0 hS
 have wO := Z0 e3
 have sD := Z0 era
 have sE := Z0 ers
 have tU := Z0 ebb
 have sF := Z0 hr
 have tV := Z0 hl
 have HN := Z0 hn
 clear hZ hK hS e3 era ers ebb hr hl hn hN
 obtain ⟨va, vc, tW⟩ : ∃ a c, vp = .slice a ps.length c := by obtain ⟨a, c, h, _⟩ := sF.out; exact ⟨a, c, h⟩
 go_enter Tryz.func9, Tryz.ntmps9
 go_wp2_with fail
 subst tW
 obtain ⟨t1, t2, t3, t4, t5, t6⟩ := Z6r (w := w) (A := .cells #[.slice va ps.length vc] 23) (B := .cells #[.slice none 0 0, .slice none 0 0] 29) (C := .cells #[.string ⟨#[]⟩, .string ⟨#[]⟩, .int .i64 1] 93) (D := .cells #[.slice none 0 0, .slice (some ⟨w.1.size + 1 + 1, 0, none⟩) 1 1] 29) rfl
 have sG := Z0 t1
 have sH := Z0 t2
 have sI := Z0 t3
 have sJ := Z0 t4
 have sK := Z0 t6
 obtain ⟨i0, hi⟩ := info_parts Tryz.infoStep
 have HI := Z0 hi
 obtain ⟨j0, hj⟩ := info_parts Tryz.infoRate
 have HJ := Z0 hj
 clear t1 t2 t3 t4 t6 hi hj
 go_loopw [8] (fun c wr => ∃ (k : Nat) (v : Value), k <= K /\ c = .int .i64 k /\ Below w.1.size w wr /\ w.1.size + 4 <= wr.1.size /\ wr.1[w.1.size]? = some (.cells #[.slice va ps.length vc] 23 (0, 0)) /\ wr.1[w.1.size + 1]? = some (.cells #[.slice none 0 0, .slice none 0 0] 29 (0, 0)) /\ wr.1[w.1.size + 1 + 1]? = some (.cells #[.string ⟨#[]⟩, .string ⟨#[]⟩, .int .i64 1] 93 (0, 0)) /\
  wr.1[w.1.size + 1 + 1 + 1]? = some (.cells #[v, .slice (some ⟨w.1.size + 1 + 1, 0, none⟩) 1 1] 29 (0, 0)) /\ OwnsRt wr (w.1.size + 4) v ((List.range k).map (Z1i ps N))) (fun c _ => K - (intOf c).toNat)
 case atStart => exact ⟨0, _, ZE _, rfl, sK.out, by simp, sG.out, sH.out, sI.out, sJ.out, OwnsRt.nil _ _⟩
 case round =>
  clear sG sH sI sJ sK
  obtain ⟨wA, tX⟩ : ∃ x, x = wr := ⟨_, rfl⟩
  subst tX
  obtain ⟨k, v, hk, rfl, hB, hz, h0, h1, h2, h3, hR⟩ := hrel
  have HB := Z0 hB
  have H0 := Z0 h0
  have H1 := Z0 h1
  have H2 := Z0 h2
  have H3 := Z0 h3
  have HR := Z0 hR
  clear hB h0 h1 h2 h3 hR
  by_cases qT : k < K
  ·have d1 : decide ((k : Int) <= ra) = true := Kac (by have := sD.out; omega)
   have wP : IntKind.u8.wrap ((k : Int) + 1) = (k : Int) + 1 := by simp [IntKind.wrap, IntKind.bits, IntKind.signed]; omega
   go_wp2_with fail
   have sL := Z02 wA (.cells #[.int .u8 ((k : Int) + 1), .slice none 0 0, .int .i64 bb] 60)
   have sM := (Z9 _ wA).alloc (Z1 _) (.cells #[.int .u8 ((k : Int) + 1), .slice none 0 0, .int .i64 bb] 60)
   have sN := Z0 sL
   have sO := Z0 sM
   clear sL sM d1
   go_loopw [10] (fun s wB => ∃ (j : Nat) (v2 : Value), j <= S /\ s = .int .i64 j /\ Below wA.1.size wA wB /\ wA.1.size + 1 <= wB.1.size /\ wB.1[wA.1.size]? = some (.cells #[.int .u8 ((k : Int) + 1), v2, .int .i64 bb] 60 (0, 0)) /\
    Z7I wB (wA.1.size + 1) v2 ((List.range j).map (Z3v ps Z k))) (fun s _ => S - (intOf s).toNat)
   case atStart => exact ⟨0, _, ZE _, rfl, sO.out, by simp, sN.out, OwnsX.nil _ _⟩
   case round =>
    clear sN sO
    obtain ⟨wB, rH⟩ : ∃ x, x = wr := ⟨_, rfl⟩
    subst rH
    obtain ⟨j, v2, hj, rfl, sP, wQ, hx, qU⟩ := hrel
    have pS := Z0 sP
    have HX := Z0 hx
    have rI := Z0 qU
    clear sP hx qU
    by_cases wR : j < S
    ·have d2 : decide ((j : Int) <= rs) = true := Kac (by have := sE.out; omega)
     go_wp2_with fail
     have sQ := Z02 wB (.cells #[.int .i64 (20 + 30 * (j : Int)), .slice none 0 0] 95)
     have sR := (Z9 _ wB).alloc (Z1 _) (.cells #[.int .i64 (20 + 30 * (j : Int)), .slice none 0 0] 95)
     have sS := Z0 sQ
     have qE := Z0 sR
     clear sQ sR d2
     go_loopw [12] (fun z wC => ∃ (i : Nat) (v3 : Value), i <= Z /\ z = .int .i64 i /\ Below wB.1.size wB wC /\ wB.1.size + 1 <= wC.1.size /\ wC.1[wB.1.size]? = some (.cells #[.int .i64 (20 + 30 * (j : Int)), v3] 95 (0, 0)) /\
      wC.ownsRow (wB.1.size + 1) 3 1 v3 i ((List.range i).map (fun q => Value.int .i64 (Z1Y ps (17 * k + 5 * j + q) : Nat)))) (fun z _ => Z - (intOf z).toNat)
     case atStart => exact ⟨0, _, ZE _, rfl, qE.out, by simp, sS.out, Kbb _ _ _ _⟩
     case round =>
      clear sS qE
      obtain ⟨wC, tY⟩ : ∃ x, x = wr := ⟨_, rfl⟩
      subst tY
      obtain ⟨i, v3, wS, rfl, rJ, wT, hy, qH⟩ := hrel
      have pT := Z0 rJ
      have HY := Z0 hy
      have rK := Z0 qH
      obtain ⟨va3, vc3, rfl⟩ := Z0F qH
      by_cases wU : i < Z
      ·have d3 : decide ((i : Int) < (Z : Int)) = true := Kac (by omega)
       have pN := Kaa _ _ 1 _ _ _ hy
       have pQ : wC.frozen? ⟨wB.1.size, 1, none⟩ = false := Z03 hy
       have rL : wB.1.size < wC.1.size := by omega
       have qV : (Value.slice va3 i vc3).ownBlock ≠ some wB.1.size := fun e => by have := (qH.lt _ e).1; omega
       have qG : ∀ W : World, Below wC.1.size wC W -> W.1.size = wC.1.size -> Calls Tryz.prog 24 #[.int .i64 ((17 * k + 5 * j + i : Nat) : Int), .pointer (some ⟨w.1.size, 0, none⟩)] W fun e w' => e = .returned (.int .i64 (Z1Y ps (17 * k + 5 * j + i) : Nat)) /\ (Below wC.1.size wC w' /\ w'.1.size = wC.1.size) := fun W hW tZ => by
        have hb := Z01 pS.out pS.out.size (Z01 pT.out pT.out.size hW)
        have hc : W.cell? ⟨w.1.size, 0, none⟩ = some (.slice va ps.length vc) := (hb.cell (p := ⟨w.1.size, 0, none⟩) (by show w.1.size < wA.1.size; omega)).trans (Kaa _ _ 0 _ _ _ H0.out)
        refine (ZdB ps (.slice va ps.length vc) w.1.size (17 * k + 5 * j + i) W (sF.out.below (Z01 HB.out HB.out.size hb)) hc (by omega) tV.out).mono ?_
        rintro e w' ⟨rfl, q, rfl⟩
        exact ⟨rfl, ⟨hW.os, hW.tape, hW.output, hW.size, hW.block⟩, tZ⟩
       have uA := Z0 qG
       clear rJ hy qH qG
       go_upto_region 15 with fail
       refine Z2O (ops' := Z6l) (by kernel_rfl) (Zhk _ wC _ (PB := w.1.size) (pr := (Z1Y ps (17 * k + 5 * j + i) : Nat)) (c := (k : Int)) (s := (j : Int)) (z := (i : Int)) (m1 := 17 * (k : Int)) (m2 := 5 * (j : Int)) (m3 := 17 * (k : Int) + 5 * (j : Int)) (m4 := ((17 * k + 5 * j + i : Nat) : Int)) (X := wB.1.size) (bn := i) (fc := vc3) (fa := va3) (base := wB.1.size + 1) (by simp) (fun _ _ _ _ _ h => h) rfl rfl rfl rfl rfl
        (by simp [IntKind.wrap, IntKind.bits, IntKind.signed]; omega) (by simp [IntKind.wrap, IntKind.bits, IntKind.signed]; omega) (by simp [IntKind.wrap, IntKind.bits, IntKind.signed]; omega) (by simp [IntKind.wrap, IntKind.bits, IntKind.signed]; omega) uA.out pN pQ rL (by simp [Value.oneCell']) rK.out (by omega) qV (by omega) ?_)
       intro a' g9 cap9 W w9 rM rN rO pK pE pL pA pP
       rw [Z2T (a' := a') [59, 60, 61, 62, 63, 64, 65, 66, 67, 68, 69, 70, 71, 72] rM (fun n hn => rN n (by simp at hn; omega)) rO]
       generalize Act.eval a' (.tmp 59) = u59
       generalize Act.eval a' (.tmp 60) = u60
       generalize Act.eval a' (.tmp 61) = u61
       generalize Act.eval a' (.tmp 62) = u62
       generalize Act.eval a' (.tmp 63) = u63
       generalize Act.eval a' (.tmp 64) = u64
       generalize Act.eval a' (.tmp 65) = u65
       generalize Act.eval a' (.tmp 66) = u66
       generalize Act.eval a' (.tmp 67) = u67
       generalize Act.eval a' (.tmp 68) = u68
       generalize Act.eval a' (.tmp 69) = u69
       generalize Act.eval a' (.tmp 70) = u70
       generalize Act.eval a' (.tmp 71) = u71
       generalize Act.eval a' (.tmp 72) = u72
       simp only [Z1K, Act.put, Kci, Kdh, Kcy]
       go_wp2_with fail
       go_roundw
       case rel =>
        have uB := Z01 pT.out pT.out.size (pK.alloc (by omega) (.cells #[.int .i64 (Z1Y ps (17 * k + 5 * j + i) : Nat)] 3))
        have uC : w9.1[wB.1.size]? = some (.cells #[.int .i64 (20 + 30 * (j : Int)), .slice va3 i vc3] 95 (0, 0)) := (pA.block _ (by rw [Z6, pE]; omega) (fun e => qV e.symm)).trans ((ZB W _ _ (by rw [pE]; exact rL)).trans ((pK.block _ rL).trans HY.out))
        have wV := pL.lt g9 rfl
        refine ⟨i + 1, .slice (some ⟨g9, 0, none⟩) (i + 1) cap9, by omega, by go_num, ?_, ?_, (Z8X uC).1, ?_⟩
        ·exact (uB.grown pA (by rw [Z6, pE]; omega) (fun r e => by have := (rK.out.lt r e).1; omega)).setCell (p := ⟨wB.1.size, 1, none⟩) (Z1 _) _
        ·have := pA.size
         rw [Z6, pE] at this
         simp [World.setCell]; omega
        ·rw [Kaq, ZD]
         exact pL.kept (Z08 _ _ _) (.inr (by show some g9 ≠ some wB.1.size; intro e; injection e; omega))
       case measure => simp [intOf]; omega
      ·obtain rfl : i = Z := by omega
       have d3 : decide ((i : Int) < (i : Int)) = false := by simp
       obtain ⟨L2, rP, sT, qW⟩ := rI.out
       have sU : L2.length = j := by
        have := Kah List.length rP
        simpa using this
       obtain ⟨va2, vc2, rfl⟩ := Z0F qW
       have qI := pT.out.block _ (show wA.1.size < wB.1.size by omega)
       have rQ := qI.trans HX.out
       have g1 := Kaa _ _ 1 _ _ _ rQ
       have y0 := Kaa _ _ 0 _ _ _ hy
       have y1 := Kaa _ _ 1 _ _ _ hy
       have uD : wA.1.size < wC.1.size := by omega
       have wW : wB.1.size < wC.1.size := by omega
       have sV := Z09 qW pT.out
       have sW := Z0 sT
       have sX := Z0 qW
       have qX := Z0 sV
       have uE := Z0 rP
       have wX := Z0 sU
       have uF := Z0 rQ
       have wY : L2.length <= 3 := by omega
       clear rJ hy qH qI rQ sT qW sV rP sU
       go_wp2_with (at_builtin; refine wpList_append_own _ rfl _ _ 58 rfl (wA.1.size + 1) 95 i0 (.agg #[.int .i64 0, .slice none 0 0]) 2 32 Tryz.underlying58 HI.out.1 HI.out.2.1 HI.out.2.2.1 HI.out.2.2.2 rfl (by decide) _ L2.length _ rfl (qX.out.alloc _) ⟨wC.1.size, 0, none⟩ 1 1 [.int .i64 (20 + 30 * (j : Int)), .slice va3 i vc3] rfl rfl (Z0f _ _ _) (by simp [Value.oneCell']) (by unfold maxLen; omega) (by omega) (by simp; omega) ?_; intro v5 w5 qJ pR _; obtain ⟨va5, vc5, rfl⟩ := Z0F qJ; (have pU : w5.1[wA.1.size]? = some (.cells #[.int .u8 ((k : Int) + 1), .slice va2 L2.length vc2, .int .i64 bb] 60 (0, 0)) := (pR.block _ (by simp; omega) (fun e => by have := (sX.out.lt _ e.symm).1; omega)).trans ((ZB _ _ _ uD).trans uF.out)); (have g5 := Kaa _ _ 1 _ _ _ pU); (have f5 : w5.frozen? ⟨wA.1.size, 1, none⟩ = false := Z03 pU))
       have pY := Z0 pU
       clear pU
       go_roundw
       case rel =>
        have pZ : Below wA.1.size wA (wC.alloc (.cells #[.int .i64 (20 + 30 * (j : Int)), .slice va3 i vc3] 95)) := (Z01 pS.out pS.out.size pT.out).alloc (by omega) _
        have rR : Below wA.1.size wA w5 := pZ.grown pR (by simp; omega) (fun r e => by have := (sX.out.lt r e).1; omega)
        have qK := pR.size
        rw [Z6] at qK
        have wZ := Z0t qX.out (T := 3) (by decide)
        have pX : Z7I (wC.alloc (.cells #[.int .i64 (20 + 30 * (j : Int)), .slice va3 i vc3] 95)) (wA.1.size + 1) (.slice va2 L2.length vc2) (L2.map Prod.fst) := OwnsX.below (w := wC) ⟨L2, rfl, fun p hp => (sW.out p hp).below pT.out, qX.out⟩ ((Z9 _ wC).alloc (Z1 _) _)
        obtain ⟨L3, e3, k1, k2⟩ := pX
        refine ⟨j + 1, .slice va5 (L2.length + 1) vc5, by omega, by go_num, rR.setCell (p := ⟨wA.1.size, 1, none⟩) (Z1 _) _, by simp [World.setCell]; omega, ZiZ pY.out, ?_⟩
        rw [Zdn, <- uE.out]
        have rS : Z7I w5 (wA.1.size + 1) (.slice va5 (L2.length + 1) vc5) (L2.map Prod.fst ++ [(Z3v ps i k j, Value.slice va3 i vc3)].map Prod.fst) := by
         refine OwnsX.app (w := wC.alloc (.cells #[.int .i64 (20 + 30 * (j : Int)), .slice va3 i vc3] 95)) (by decide) (fun p hp => ((sW.out p hp).below pT.out).below ((Z9 _ wC).alloc (Z1 _) _)) (fun p hp => ?_) (qX.out.alloc _) pR qJ
         obtain rfl := ZI.1 hp
         have h := rK.out
         have e : (List.range i).map (fun q => Value.int .i64 (Z1Y ps (17 * k + 5 * j + q) : Nat)) = ((Z3v ps i k j).cents).map (Value.int .i64) := by unfold Z3v; rw [Kdd]; rfl
         have hl : ((Z3v ps i k j).cents).length = i := by simp [Z3v]
         rw [e] at h
         exact ((RowJ.of_rowI (by rw [hl]; exact h)).mono (by omega)).below ((Z9 _ wC).alloc (Z1 _) _)
        exact rS.beside (Z08 _ _ _) (Z0R pY.out (by decide)) (Z0R pY.out (by decide))
       case measure => simp [intOf]; omega
    ·obtain rfl : j = S := by omega
     have d2 : decide ((j : Int) <= rs) = false := Kad (by have := sE.out; omega)
     obtain ⟨L1, rT, sY, rU⟩ := HR.out
     have rV : L1.length = k := by
      have := Kah List.length rT
      simpa using this
     obtain ⟨va1, vc1, rfl⟩ := Z0F rU
     have sZ := rI.out.form
     rw [Z7, Kay] at sZ
     obtain ⟨va2, vc2, rfl⟩ := sZ
     have h3' := (pS.out.block _ (show w.1.size + 1 + 1 + 1 < wA.1.size by omega)).trans H3.out
     have g0 := Kaa _ _ 0 _ _ _ h3'
     have x0 := Kaa _ _ 0 _ _ _ HX.out
     have x1 := Kaa _ _ 1 _ _ _ HX.out
     have x2 := Kaa _ _ 2 _ _ _ HX.out
     have uG : w.1.size + 1 + 1 + 1 < wB.1.size := by omega
     have rW : wA.1.size < wB.1.size := by omega
     have uH := Z0 h3'
     have qL := Z0 (Z09 rU pS.out)
     have uI := Z0 sY
     have uJ := Z0 rT
     have xA : L1.length <= 3 := by omega
     have xB := Z0 rV
     clear h3' rU sY rT rV
     go_wp2_with (at_builtin; refine wpList_append_own _ rfl _ _ 26 rfl (w.1.size + 4) 60 j0 (.agg #[.int .u8 0, .slice none 0 0, .int .i64 0]) 3 40 Tryz.underlying26 HJ.out.1 HJ.out.2.1 HJ.out.2.2.1 HJ.out.2.2.2 rfl (by decide) _ L1.length _ rfl (qL.out.alloc _) ⟨wB.1.size, 0, none⟩ 1 1 [.int .u8 ((k : Int) + 1), .slice va2 j vc2, .int .i64 bb] rfl rfl (Z0f _ _ _) (by simp [Value.oneCell']) (by unfold maxLen; omega) (by omega) (by simp; omega) ?_; intro v5 w5 qJ pR _; obtain ⟨va5, vc5, rfl⟩ := Z0F qJ; (have pU : w5.1[w.1.size + 1 + 1 + 1]? = some (.cells #[.slice va1 L1.length vc1, .slice (some ⟨w.1.size + 1 + 1, 0, none⟩) 1 1] 29 (0, 0)) := (pR.block _ (by simp; omega) (fun e => by have := (qL.out.lt _ e.symm).1; omega)).trans ((ZB _ _ _ uG).trans uH.out)); (have g5 := Kaa _ _ 0 _ _ _ pU); (have f5 : w5.frozen? ⟨w.1.size + 1 + 1 + 1, 0, none⟩ = false := Z03 pU))
     have pY := Z0 pU
     clear pU
     go_roundw
     case rel =>
      have uK := Z01 HB.out HB.out.size pS.out
      have pZ : Below w.1.size w (wB.alloc (.cells #[.int .u8 ((k : Int) + 1), .slice va2 j vc2, .int .i64 bb] 60)) := uK.alloc (by omega) _
      have rR : Below w.1.size w w5 := pZ.grown pR (by simp; omega) (fun r e => by have := (qL.out.lt r e).1; omega)
      have qK := pR.size
      rw [Z6] at qK
      have qM : ∀ b, b < w.1.size + 3 -> w5.1[b]? = wA.1[b]? := fun b hb => (pR.block _ (by simp; omega) (fun e => by have := (qL.out.lt _ e.symm).1; omega)).trans ((ZB _ _ _ (by omega)).trans (pS.out.block _ (by omega)))
      have tA : Below wB.1.size wB (wB.alloc (.cells #[.int .u8 ((k : Int) + 1), .slice va2 j vc2, .int .i64 bb] 60)) := (Z9 _ wB).alloc (Z1 _) _
      have rX : ∀ b u, b < w.1.size + 3 -> (w5.setCell ⟨w.1.size + 1 + 1 + 1, 0, none⟩ u).1[b]? = wA.1[b]? := fun b u hb => (ZA _ _ _ _ (by show b ≠ w.1.size + 1 + 1 + 1; omega)).trans (qM b hb)
      refine ⟨k + 1, .slice va5 (L1.length + 1) vc5, by omega, by go_num, rR.setCell (p := ⟨w.1.size + 1 + 1 + 1, 0, none⟩) (by show w.1.size <= w.1.size + 1 + 1 + 1; omega) _, by simp [World.setCell]; omega, (rX _ _ (by omega)).trans H0.out, (rX _ _ (by omega)).trans H1.out, (rX _ _ (by omega)).trans H2.out, (Z8X pY.out).2, ?_⟩
      rw [Zdz, <- uJ.out]
      have pX : Z7I (wB.alloc (.cells #[.int .u8 ((k : Int) + 1), .slice va2 j vc2, .int .i64 bb] 60)) (w.1.size + 4) (.slice va2 j vc2) (Z1i ps N k).steps := by
       unfold Z1i
       rw [<- HS.out, <- HZ.out]
       exact (rI.out.mono (by omega)).below tA
      have uL : Z4a (Z1i ps N k, .slice va2 j vc2) = [.int .u8 ((k : Int) + 1), .slice va2 j vc2, .int .i64 bb] := by
       unfold Z4a Z1i
       rw [tU.out]
       rfl
      have rS := ZdA (v' := .slice va5 (L1.length + 1) vc5) (fun p hp => ((uI.out p hp).below pS.out).below tA) pX (qL.out.alloc _) pR (by rw [uL]; exact qJ)
      exact rS.beside (Z08 _ _ _) (Z0R pY.out (by decide)) (Z0R pY.out (by decide)) (Z0R pY.out (by decide))
     case measure => simp [intOf]; omega
  ·obtain rfl : k = K := by omega
   have d1 : decide ((k : Int) <= ra) = false := Kad (by have := sD.out; omega)
   go_wp2_with fail
   have hp := Z02 wA (.cells ZdD 96)
   have rY : Below wA.1.size wA (wA.alloc (.cells ZdD 96)) := (Z9 _ wA).alloc (Z1 _) _
   have HP := Z0 hp
   have qN := Z0 rY
   have qY : (wA.alloc (.cells ZdD 96)).ownsRow (w.1.size + 2) 93 3 (.slice (some ⟨w.1.size + 1 + 1, 0, none⟩) 1 1) (Z0z N 0).length ((Z0z N 0).flatMap znC) :=
    ⟨rfl, .inr ⟨w.1.size + 1 + 1, 1, #[.string ⟨#[]⟩, .string ⟨#[]⟩, .int .i64 1], rfl, Z1 _, (rY.block _ (by omega)).trans H2.out, Z1 _, by decide, rfl, rfl⟩⟩
   have tB := Z0 qY
   obtain ⟨q0, hq⟩ := info_parts Tryz.infoZone
   have HQ := Z0 hq
   clear hp rY qY d1 hq
   go_loopw [96] (fun i w4 => ∃ (q : Nat) (vz : Value), q <= 9 /\ i = .int .i64 q /\ Below w.1.size w w4 /\ wA.1.size + 1 <= w4.1.size /\ w4.1[wA.1.size]? = some (.cells ZdD 96 (0, 0)) /\ w4.1[w.1.size + 1]? = some (.cells #[.slice none 0 0, .slice none 0 0] 29 (0, 0)) /\
    w4.1[w.1.size + 1 + 1 + 1]? = some (.cells #[v, vz] 29 (0, 0)) /\ OwnsRt w4 (w.1.size + 4) v ((List.range k).map (Z1i ps N)) /\ w4.ownsRow (w.1.size + 2) 93 3 vz (Z0z N q).length ((Z0z N q).flatMap znC)) (fun i _ => 9 - (intOf i).toNat)
   case atStart => exact ⟨0, _, ZE _, rfl, Z01 HB.out HB.out.size qN.out, by simp, HP.out, (qN.out.block _ (by omega)).trans H1.out, (qN.out.block _ (by omega)).trans H3.out, HR.out.below qN.out, tB.out⟩
   case round =>
    clear HP qN tB H0 H1 H2 H3 HR HB
    obtain ⟨wB, rH⟩ : ∃ x, x = wr := ⟨_, rfl⟩
    subst rH
    obtain ⟨q, vz, xC, rfl, hB, xD, hp, h1, h3, hR, hO⟩ := hrel
    have xE := Zel N q
    have HB := Z0 hB
    have HP := Z0 hp
    have H1 := Z0 h1
    have H3 := Z0 h3
    have HR := Z0 hR
    have HO := Z0 hO
    by_cases tC : q < 9
    ·have d4 : decide ((q : Int) < 9) = true := Kac (by omega)
     obtain ⟨pa, pb⟩ := Zj8 tC
     have c0 := (Kaa _ _ (q * 2) _ _ _ hp).trans pa
     have c1 := (Kaa _ _ (q * 2 + 1) _ _ _ hp).trans pb
     have rW : wA.1.size < wB.1.size := by omega
     have tD := HM.out.bit q tC
     obtain ⟨Pr, rZ⟩ : ∃ x, x = pairsN.getD q (⟨#[]⟩, ⟨#[]⟩) := ⟨_, rfl⟩
     rw [<- rZ] at c0 c1
     have uM := Z0 rZ
     have tE := Z0 tD
     have qI := (Z9 _ wB).alloc (Z1 _) (.cells #[.string Pr.1, .string Pr.2] 96)
     have tF := Z02 wB (.cells #[.string Pr.1, .string Pr.2] 96)
     have pJ := Z0 qI
     have qZ := Z0 tF
     clear rZ hB hp h1 h3 hR hO pa pb tD qI tF
     cases pV : Zie N q
     ·have hb' : bits BinOp.and IntKind.u32 (n / 2 ^ (11 + q)) 1 <= 0 := by
       have := tE.out
       rw [pV] at this
       simpa using this
      have qE := Z0 pV
      clear pV
      go_wp2_with fail
      go_roundw
      case rel =>
       refine ⟨q + 1, vz, by omega, by go_num, Z01 HB.out HB.out.size pJ.out, by simp; omega, (pJ.out.block _ rW).trans HP.out, (pJ.out.block _ (by omega)).trans H1.out, (pJ.out.block _ (by omega)).trans H3.out, HR.out.below pJ.out, ?_⟩
       rw [Z7Y, qE.out]
       exact Z09 HO.out pJ.out
      case measure => simp [intOf]; omega
     ·have hb' : 0 < bits BinOp.and IntKind.u32 (n / 2 ^ (11 + q)) 1 := by
       have := tE.out
       rw [pV] at this
       simpa using this
      have qE := Z0 pV
      clear pV
      obtain ⟨vza, vzc, rfl⟩ := Z0F HO.out
      obtain ⟨W0, sA⟩ : ∃ x, x = wB.alloc (.cells #[.string Pr.1, .string Pr.2] 96) := ⟨_, rfl⟩
      have tG := Z0 sA
      rw [<- sA] at pJ qZ
      clear sA
      go_upto_region 22 with fail
      rw [<- tG.out]
      have xF : W0.1.size = wB.1.size + 1 := by rw [tG.out]; simp
      have qF := Z09 HO.out pJ.out
      have rA := (pJ.out.block _ (show w.1.size + 1 + 1 + 1 < wB.1.size by omega)).trans H3.out
      have pN := Kaa _ _ 1 _ _ _ rA
      have pQ : W0.frozen? ⟨w.1.size + 1 + 1 + 1, 1, none⟩ = false := Z03 rA
      have qV : (Value.slice vza (Z0z N q).length vzc).ownBlock ≠ some (w.1.size + 1 + 1 + 1) := fun e => Z0t qF (T := 29) (by decide) _ e _ _ rA
      have qY : (Value.slice vza (Z0z N q).length vzc).ownBlock ≠ some wB.1.size := fun e => Z0t qF (T := 96) (by decide) _ e _ _ qZ.out
      obtain ⟨rm, rD⟩ : ∃ rm : Int, rm = ((q % Z : Nat) : Int) := ⟨_, rfl⟩
      have xG : 0 <= rm /\ rm <= 2 := by
       have := Kcj q (show 0 < Z by omega)
       omega
      have uN : ((q : Int)).tmod (Z : Int) = rm := by rw [Kbn (Kce _), rD]; rfl
      refine Z2O (ops' := Z6k) (by kernel_rfl) (Zhj _ W0 _ (Z := wB.1.size) (fr := Pr.1) (tl := Pr.2) (zn := 1 + rm) (zs := (Z : Int)) (i := (q : Int)) (rm := rm) (X := w.1.size + 1 + 1 + 1) (bn := (Z0z N q).length) (fc := vzc) (fa := vza) (base := w.1.size + 2) (by simp) (fun _ _ _ _ _ h => h) rfl rfl rfl rfl
       (by omega) uN (by simp [IntKind.wrap, IntKind.bits, IntKind.signed]; omega) (by simp [IntKind.wrap, IntKind.bits, IntKind.signed]; omega) (Kaa _ _ 0 _ _ _ qZ.out) (Kaa _ _ 1 _ _ _ qZ.out) (by omega) (by omega) qY pN pQ (by omega) (by simp [Value.oneCell']) qF (by omega) qV (by omega) ?_)
      intro a' g9 cap9 W w9 rM rN rO pK pE pL pA pP
      rw [Z2T (a' := a') [107, 108, 109, 110, 111, 112, 113, 114, 115, 116, 117, 118, 119, 120] rM (fun n hn => rN n (by simp at hn; omega)) rO]
      generalize Act.eval a' (.tmp 107) = u107
      generalize Act.eval a' (.tmp 108) = u108
      generalize Act.eval a' (.tmp 109) = u109
      generalize Act.eval a' (.tmp 110) = u110
      generalize Act.eval a' (.tmp 111) = u111
      generalize Act.eval a' (.tmp 112) = u112
      generalize Act.eval a' (.tmp 113) = u113
      generalize Act.eval a' (.tmp 114) = u114
      generalize Act.eval a' (.tmp 115) = u115
      generalize Act.eval a' (.tmp 116) = u116
      generalize Act.eval a' (.tmp 117) = u117
      generalize Act.eval a' (.tmp 118) = u118
      generalize Act.eval a' (.tmp 119) = u119
      generalize Act.eval a' (.tmp 120) = u120
      simp only [Z1K, Act.put, Kci, Kdh, Kcy]
      go_wp2_with fail
      go_roundw
      case rel =>
       have pZ : Below W0.1.size W0 (W.alloc (.cells #[.string Pr.1, .string Pr.2, .int .i64 (1 + rm)] 93)) := pK.alloc (by omega) _
       have uO := Z01 HB.out HB.out.size (Z01 pJ.out pJ.out.size pZ)
       have qK := pA.size
       rw [Z6, pE] at qK
       have qM : ∀ b o, W0.1[b]? = some o -> (∀ cur fr, o ≠ Obj.cells cur 93 fr) -> w9.1[b]? = some o := fun b o ho uP => by
        have qT := (Z5.1 ho).1
        exact (pA.block _ (by rw [Z6, pE]; omega) (fun e => by
         obtain ⟨_, hv | ⟨g', cap', cur', hv', _, hh, _⟩⟩ := qF
         ·rw [hv.1] at e; cases e
         ·rw [hv'] at e
          have e' : b = g' := Kav e
          subst e'
          rw [ho] at hh
          exact uP _ _ (Kav hh))).trans ((pZ.block _ qT).trans ho)
       have qO := qM _ _ rA (fun cur fr e => by injection e with e1 e2; exact absurd e2 (by decide))
       have uQ := qM _ _ ((pJ.out.block _ rW).trans HP.out) (fun cur fr e => by injection e with e1 e2; exact absurd e2 (by decide))
       have uR := qM _ _ ((pJ.out.block _ (show w.1.size + 1 < wB.1.size by omega)).trans H1.out) (fun cur fr e => by injection e with e1 e2; exact absurd e2 (by decide))
       have pX : ∀ b u, b ≠ w.1.size + 1 + 1 + 1 -> (w9.setCell ⟨w.1.size + 1 + 1 + 1, 1, none⟩ u).1[b]? = w9.1[b]? := fun b u hb => ZA _ _ _ _ hb
       have sB := qF.kept (row := none) (Z0a pZ) (Kbm _)
       refine ⟨q + 1, .slice (some ⟨g9, 0, none⟩) ((Z0z N q).length + 1) cap9, by omega, by go_num, (uO.grown pA (by rw [Z6, pE]; omega) (fun r e => by have := (qF.lt r e).1; omega)).setCell (p := ⟨w.1.size + 1 + 1 + 1, 1, none⟩) (by show w.1.size <= w.1.size + 1 + 1 + 1; omega) _, by simp [World.setCell]; omega, (pX _ _ (by omega)).trans uQ, (pX _ _ (by omega)).trans uR, (Z8X qO).1, ?_, ?_⟩
       ·exact ((HR.out.below (Z01 pJ.out pJ.out.size pZ)).beside pA (Z0t sB (by decide)) (Z0t sB (by decide)) (Z0t sB (by decide))).beside (Z08 _ _ _) (Z0R qO (by decide)) (Z0R qO (by decide)) (Z0R qO (by decide))
       ·have e1 : Zkx (Z1x N) q = ⟨Pr.1, Pr.2, 1 + rm⟩ := by
         unfold Zkx
         rw [<- uM.out, <- HZ.out, rD]
         rfl
        rw [Z7Y, qE.out, if_pos rfl, e1, ZC, Kai]
        exact Z0A pL (Z08 _ _ _) (Z0R qO (by decide))
      case measure => simp [intOf]; omega
    ·obtain rfl : q = 9 := by omega
     have d4 : decide (((9 : Nat) : Int) < 9) = false := by decide
     have sC := HR.out.rd
     have uS := Zca HO.out
     have tH := HR.out.form
     rw [Z7, Kay] at tH
     obtain ⟨va1, vc1, rfl⟩ := tH
     obtain ⟨vza, vzc, rfl⟩ := Z0F HO.out
     have k0 := Kaa _ _ 0 _ _ _ h3
     have k1 := Kaa _ _ 1 _ _ _ h3
     have k2 := Kaa _ _ 0 _ _ _ h1
     have k3 := Kaa _ _ 1 _ _ _ h1
     have f2 : wB.frozen? ⟨w.1.size + 1, 0, none⟩ = false := Z03 h1
     have f3 : wB.frozen? ⟨w.1.size + 1, 1, none⟩ = false := Z03 h1
     have rV : w.1.size + 1 < wB.1.size := by omega
     have xH : w.1.size + 1 + 1 + 1 < wB.1.size := by omega
     clear hB hp h1 h3 hR hO sC uS
     go_wp2_with fail
     refine bodyPost_ret (results_cell_row rfl _ _ (w.1.size + 1) 29 _ (0, 0) _ rfl (ZkG H1.out) Tryz.underlying29 rfl (by kernel_rfl)) rfl ?_
     have rB : ∀ (W : World) (u : Value) (j : Nat), W.grownBy (W.setCell ⟨w.1.size + 1, j, none⟩ u) (some (w.1.size + 1)) := fun W u j => Z08 W ⟨w.1.size + 1, j, none⟩ u
     have rC := (Z8X (b1 := .slice va1 k vc1) H1.out).2
     have uT := (HR.out.beside (rB wB (.slice va1 k vc1) 0) (Z0R H1.out (by decide)) (Z0R H1.out (by decide)) (Z0R H1.out (by decide))).beside (rB _ (.slice vza (Z0z N 9).length vzc) 1) (Z0R rC (by decide)) (Z0R rC (by decide)) (Z0R rC (by decide))
     have qU := Z0A (Z0A HO.out (rB wB (.slice va1 k vc1) 0) (Z0R H1.out (by decide))) (rB _ (.slice vza (Z0z N 9).length vzc) 1) (Z0R rC (by decide))
     rw [<- HK.out]
     refine ⟨va1, vc1, vza, vzc, rfl, (HB.out.setCell (p := ⟨w.1.size + 1, 0, none⟩) (by show w.1.size <= w.1.size + 1; omega) _).setCell (p := ⟨w.1.size + 1, 1, none⟩) (by show w.1.size <= w.1.size + 1; omega) _, ⟨?_, Zca qU⟩⟩
     have sC := uT.rd
     have e : (Z1H N ps).rates = (List.range k).map (Z1i ps N) := by unfold Z1H; rw [HK.out]
     rw [e]
     exact sC
end Go.Proofs.YtlgajongmkhcnaaGreatDoor
