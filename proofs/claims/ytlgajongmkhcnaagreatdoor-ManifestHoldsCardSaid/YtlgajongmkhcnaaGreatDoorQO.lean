import Derived.Test.YtlgajongmkhcnaaGreatDoorQZ
import Derived.Test.YtlgajongmkhcnaaGreatDoorQM
import Derived.Deep.AppendLies
import Derived.Deep.RegionLaw
import Derived.Deep.RegionHeld3
import Derived.Deep.DrawnRows
import Derived.Test.YtlgajongmkhcnaaGreatDoorQK
import Derived.Test.YtlgajongmkhcnaaGreatDoorQG
import Derived.Test.YtlgajongmkhcnaaGreatDoorQ5
import Derived.Deep.CutBlock
set_option linter.unusedVariables false
set_option linter.unusedSimpArgs false
set_option maxHeartbeats 32000000
namespace Go.Proofs.YtlgajongmkhcnaaGreatDoor
open Go.RowKit Go.Sort
set_option maxRecDepth 100000
theorem Z6c {P : Program} {md : Region.Mode} {ops : Array Oper} {Q : Exit -> Act -> World -> Prop} {S : World -> Prop} {fuel : Nat} {listed : Array Bool} {a : Act} {w : World} {i : Nat} {rs : List Nat} (o : Oper) (f : FuncId) (args : Array Value) (v : Value) (p : World -> Prop) (ho : ops[i]? = some o) (hg : o.guard = none)
 (hr : (execOp a.eval o).run P w = .ok (.enter f args) w) (hc : Calls P f args w fun e w' => e = .returned v /\ p w') (hS : ∀ w', p w' -> S w') (hn : ∀ w', p w' -> wpAnyH P md ops Q S fuel (listed.setIfInBounds i true) (a.put o.dst v) w')
 (hs : AllReadyH P md ops Q S fuel listed a w rs) : AllReadyH P md ops Q S fuel listed a w (i :: rs) := AllReadyH.cons ho (fun K' hK => by
 rw [if_pos (by simp [Region.wanted, hg])]
 unfold Oper.wp
 rw [hr]
 refine Calls.mono hc ?_
 rintro e w' ⟨rfl, hp⟩
 exact hK.out _ _ (hS w' hp) (fun _ => hn w' hp)) hs
noncomputable def Z5O : Array Oper := (Tryz.f9.body.bind (Z1L 15)).getD #[]
set_option linter.unusedSimpArgs false in
theorem Zg2 (a : Act) (w : World) (Q : Exit -> Act -> World -> Prop) {PB : Nat} {pr c s z m1 m2 m3 m4 : Int} {X bn fc base : Nat} {fa : Option Addr} {xs : List Value} (hsz : 73 <= a.tmps.size) (hQ : ∀ c (a : Act) (d : Nat) (v : Value) w, Q (.panic c) (a.put (some d) v) w -> Q (.panic c) a w)
 (h6 : a.eval (.tmp 6) = .func (.func 24) #[] #[.pointer (some ⟨PB, 0, none⟩)]) (h8 : a.eval (.tmp 8) = .int .i64 c) (h10 : a.eval (.tmp 10) = .int .i64 s) (h11 : a.eval (.tmp 11) = .pointer (some ⟨X, 0, none⟩)) (h12 : a.eval (.tmp 12) = .int .i64 z) (hw1 : IntKind.i64.wrap (17 * c) = m1) (hw2 : IntKind.i64.wrap (5 * s) = m2) (hw3 : IntKind.i64.wrap (m1 + m2) = m3) (hw4 : IntKind.i64.wrap (m3 + z) = m4)
 (hcall : ∀ W : World, Below w.1.size w W -> W.1.size = w.1.size -> Calls Tryz.prog 24 #[.int .i64 m4, .pointer (some ⟨PB, 0, none⟩)] W fun e w' => e = .returned (.int .i64 pr) /\ (Below w.1.size w w' /\ w'.1.size = w.1.size))
 (hcu : w.cell? ⟨X, 1, none⟩ = some (.slice fa bn fc)) (hfz : w.frozen? ⟨X, 1, none⟩ = false) (hX : X < w.1.size)
 (hone : ∀ v ∈ ([.int .i64 pr] : List Value), v.oneCell' = true) (hown : w.ownsRow base 3 1 (.slice fa bn fc) bn xs) (hbase : base <= w.1.size) (hXo : (Value.slice fa bn fc).ownBlock ≠ some X) (hbn : bn <= 100000)
 (hend : ∀ a' g9 cap9 (W w9 : World), a'.tmps.size = a.tmps.size -> (∀ n : Nat, n < 59 \/ 73 <= n -> a'.eval (.tmp n) = a.eval (.tmp n)) -> a'.defers = a.defers -> Below w.1.size w W -> W.1.size = w.1.size -> w9.ownsRow base 3 1 (.slice (some ⟨g9, 0, none⟩) (bn + 1) cap9) (bn + 1) (xs ++ [.int .i64 pr]) -> (W.alloc (.cells #[.int .i64 pr] 3)).grownBy w9 (Value.slice fa bn fc).ownBlock -> ((Value.slice fa bn fc).ownBlock = some g9 \/ g9 = w.1.size + 1) -> Q .normal a' (w9.setCell ⟨X, 1, none⟩ (.slice (some ⟨g9, 0, none⟩) (bn + 1) cap9))) :
 (Code.region 15 Z5O true).wp Tryz.prog Q a w := by
 have hs59 : 59 < a.tmps.size := (by omega); have hs60 : 60 < a.tmps.size := (by omega); have hs61 : 61 < a.tmps.size := (by omega); have hs62 : 62 < a.tmps.size := (by omega); have hs63 : 63 < a.tmps.size := (by omega); have hs64 : 64 < a.tmps.size := (by omega); have hs65 : 65 < a.tmps.size := (by omega); have hs66 : 66 < a.tmps.size := (by omega); have hs67 : 67 < a.tmps.size := (by omega); have hs68 : 68 < a.tmps.size := (by omega); have hs69 : 69 < a.tmps.size := (by omega); have hs70 : 70 < a.tmps.size := (by omega); have hs71 : 71 < a.tmps.size := (by omega); have hs72 : 72 < a.tmps.size := (by omega)
 obtain ⟨i0, hi⟩ := info_parts Zhm
 conv =>
  pattern Z5O
  unfold Z5O
  whnf
 refine wp_region_held_drew (S := fun w' => True) (by kernel_rfl) (True.intro) (fun hHeld => ?_)
 have hbW : Below w.1.size w w.drew := (Z9 _ w).drew
 have hzW : w.drew.1.size = w.1.size := rfl
 refine Z0Z 0 59 (.pointer (some ⟨X, 1, none⟩)) rfl hQ hHeld ?_ ?_; rotate_left
 refine Z0Z 2 61 (.func (.func 24) #[] #[.pointer (some ⟨PB, 0, none⟩)]) rfl hQ hHeld ?_ ?_; rotate_left
 refine Z0Z 3 62 (.int .i64 c) rfl hQ hHeld ?_ ?_; rotate_left
 refine Z0Z 4 63 (.int .i64 m1) rfl hQ hHeld ?_ ?_; rotate_left
 refine Z0Z 5 64 (.int .i64 s) rfl hQ hHeld ?_ ?_; rotate_left
 refine Z0Z 6 65 (.int .i64 m2) rfl hQ hHeld ?_ ?_; rotate_left
 refine Z0Z 7 66 (.int .i64 m3) rfl hQ hHeld ?_ ?_; rotate_left
 refine Z0Z 8 67 (.int .i64 z) rfl hQ hHeld ?_ ?_; rotate_left
 refine Z0Z 9 68 (.int .i64 m4) rfl hQ hHeld ?_ ?_; rotate_left
 refine wpAnyH_ready (rs := [1, 10]) (by kernel_rfl) (by simp) ?_
 refine Z0q ⟨some 60, .load 35 (.tmp 59), _, _, _, none⟩ (.slice fa bn fc) w.drew rfl rfl ?_ (True.intro) ?_ (Z6c ⟨some 69, .call { callee := .value (.tmp 61), args := #[.tmp 68], argTypes := #[3] }, _, _, _, none⟩ 24 #[.int .i64 m4, .pointer (some ⟨PB, 0, none⟩)] (.int .i64 pr) (fun w' => Below w.1.size w w' /\ w'.1.size = w.1.size) rfl rfl ?_ (hcall _ hbW hzW) (fun WC hC => True.intro) (fun WC hC => ?_) AllReadyH.nil); rotate_left
 ·refine wpAnyH_ready (rs := [10]) (by kernel_rfl) (by simp) ?_
  refine Z6c ⟨some 69, .call { callee := .value (.tmp 61), args := #[.tmp 68], argTypes := #[3] }, _, _, _, none⟩ 24 #[.int .i64 m4, .pointer (some ⟨PB, 0, none⟩)] (.int .i64 pr) (fun w' => Below w.1.size w w' /\ w'.1.size = w.1.size) rfl rfl ?_ (hcall _ hbW hzW) (fun WC hC => True.intro) (fun WC hC => ?_) AllReadyH.nil; rotate_left
  ·obtain ⟨hbV, hzV⟩ := hC
   have hcV : WC.cell? ⟨X, 1, none⟩ = some (.slice fa bn fc) := (hbV.cell (p := ⟨X, 1, none⟩) hX).trans hcu
   have hxV : X < WC.1.size := by rw [hzV]; exact hX
   refine wpAnyH_ready (rs := [11]) (by kernel_rfl) (by simp) ?_
   refine Z0q ⟨some 70, .buildSlice 35 1 #[(0, .tmp 69)], _, _, _, none⟩ (.slice (some ⟨WC.1.size, 0, none⟩) 1 1) (WC.alloc (.cells #[.int .i64 pr] 3)) rfl rfl ?_ (True.intro) ?_ AllReadyH.nil; rotate_left
   ·refine wpAnyH_ready (rs := [12]) (by kernel_rfl) (by simp) ?_
    refine Z2a ⟨some 71, .call { callee := .builtin .append, args := #[.tmp 60, .tmp 70], argTypes := #[35, 35] }, _, _, _, none⟩ rfl rfl (fun K hK => wp_append_lies (WC.alloc (.cells #[.int .i64 pr] 3)) (.tmp 60) (.tmp 70) 35 rfl base 3 i0 (.int .i64 0) 1 8 Tryz.underlying35 hi.1 hi.2.1 hi.2.2.1 hi.2.2.2 rfl (by decide) (.slice fa bn fc) bn xs ?_ ((hown.kept (row := none) (Z0a hbV) (Classical.em _)).alloc _) ⟨WC.1.size, 0, none⟩ 1 1 [.int .i64 pr] ?_ (by rfl) (World.news_of_block (cs := #[.int .i64 pr]) (t := 3) (fr := (0, 0)) (heap_alloc_new WC _)) hone (by omega) (by unfold maxLen; omega) (by omega) ?_ _ rfl (fun g9 cap9 w9 hown9 hgrow hat9 hlt9 => hK _ _ (True.intro) ?_)) AllReadyH.nil
    rotate_left; rotate_left
    ·rw [Z6, hzV]
     omega
    have hb9 : w9.1[X]? = w.1[X]? := (hgrow.block X (by rw [Z6, hzV]; omega) (fun e => hXo e.symm)).trans ((ZB WC _ _ (by rw [hzV]; exact hX)).trans ((hbV).block X hX))
    have c9 : w9.cell? ⟨X, 1, none⟩ = some (.slice fa bn fc) := (World.cell?_of_block (w := w) hb9).trans hcu
    have f9 : w9.frozen? ⟨X, 1, none⟩ = false := (World.frozen?_of_block (w := w) hb9).trans hfz
    refine Z0Z 13 72 (.pointer (some ⟨X, 1, none⟩)) rfl hQ True.intro ?_ ?_; rotate_left
    refine wpAnyH_ready (rs := [14]) (by kernel_rfl) (by simp) ?_
    refine Z1E ⟨none, .store 35 (.tmp 72) (.tmp 71), _, _, _, none⟩ (w9.setCell ⟨X, 1, none⟩ (.slice (some ⟨g9, 0, none⟩) (bn + 1) cap9)) rfl rfl ?_ (True.intro) ?_ AllReadyH.nil; rotate_left
    refine wpAnyH_done (by kernel_rfl) ?_ _
    refine hend _ g9 cap9 WC w9 ?_ ?_ ?_ hbV hzV hown9 hgrow (hat9.imp id (fun h => h.trans (by rw [Z6, hzV])))
    ·simp only [size_put]
    ·intro n hn
     rcases hn with hn | hn
     all_goals
      (simp (disch := omega) only [Z0W, eval_put_ne])
    ·simp only [Z1v]
    all_goals first | (intro w' hS; have hS' := hS; simp (disch := (first | omega | (simp only [size_put]; omega))) only [execOp, eval_put_ne, Z03, h6, h8, h10, h11, h12]; first | rfl | (go_simp; done)) | (simp (disch := (first | omega | (simp only [size_put]; omega))) only [execOp, eval_put_ne, Z03, h6, h8, h10, h11, h12]; done) | (simp (disch := (first | omega | (simp only [size_put]; omega))) only [execOp, eval_put_ne, Z03, h6, h8, h10, h11, h12]; go_simp; done)
   all_goals first | (intro w' hS; have hS' := hS; simp (disch := (first | omega | (simp only [size_put]; omega))) only [execOp, eval_put_ne, Z03, h6, h8, h10, h11, h12]; first | rfl | (go_simp; done)) | (simp (disch := (first | omega | (simp only [size_put]; omega))) only [execOp, eval_put_ne, Z03, h6, h8, h10, h11, h12]; done) | (simp (disch := (first | omega | (simp only [size_put]; omega))) only [execOp, eval_put_ne, Z03, h6, h8, h10, h11, h12]; go_simp; done)
  all_goals first | (intro w' hS; have hS' := hS; simp (disch := (first | omega | (simp only [size_put]; omega))) only [execOp, eval_put_ne, Z03, h6, h8, h10, h11, h12]; first | rfl | (go_simp; done)) | (simp (disch := (first | omega | (simp only [size_put]; omega))) only [execOp, eval_put_ne, Z03, h6, h8, h10, h11, h12]; done) | (simp (disch := (first | omega | (simp only [size_put]; omega))) only [execOp, eval_put_ne, Z03, h6, h8, h10, h11, h12]; go_simp; done)
 rotate_left
 ·obtain ⟨hbV, hzV⟩ := hC
  have hcV : WC.cell? ⟨X, 1, none⟩ = some (.slice fa bn fc) := (hbV.cell (p := ⟨X, 1, none⟩) hX).trans hcu
  have hxV : X < WC.1.size := by rw [hzV]; exact hX
  refine wpAnyH_ready (rs := [1, 11]) (by kernel_rfl) (by simp) ?_
  refine Z0q ⟨some 60, .load 35 (.tmp 59), _, _, _, none⟩ (.slice fa bn fc) WC rfl rfl ?_ (True.intro) ?_ (Z0q ⟨some 70, .buildSlice 35 1 #[(0, .tmp 69)], _, _, _, none⟩ (.slice (some ⟨WC.1.size, 0, none⟩) 1 1) (WC.alloc (.cells #[.int .i64 pr] 3)) rfl rfl ?_ (True.intro) ?_ AllReadyH.nil); rotate_left
  ·refine wpAnyH_ready (rs := [11]) (by kernel_rfl) (by simp) ?_
   refine Z0q ⟨some 70, .buildSlice 35 1 #[(0, .tmp 69)], _, _, _, none⟩ (.slice (some ⟨WC.1.size, 0, none⟩) 1 1) (WC.alloc (.cells #[.int .i64 pr] 3)) rfl rfl ?_ (True.intro) ?_ AllReadyH.nil; rotate_left
   ·refine wpAnyH_ready (rs := [12]) (by kernel_rfl) (by simp) ?_
    refine Z2a ⟨some 71, .call { callee := .builtin .append, args := #[.tmp 60, .tmp 70], argTypes := #[35, 35] }, _, _, _, none⟩ rfl rfl (fun K hK => wp_append_lies (WC.alloc (.cells #[.int .i64 pr] 3)) (.tmp 60) (.tmp 70) 35 rfl base 3 i0 (.int .i64 0) 1 8 Tryz.underlying35 hi.1 hi.2.1 hi.2.2.1 hi.2.2.2 rfl (by decide) (.slice fa bn fc) bn xs ?_ ((hown.kept (row := none) (Z0a hbV) (Classical.em _)).alloc _) ⟨WC.1.size, 0, none⟩ 1 1 [.int .i64 pr] ?_ (by rfl) (World.news_of_block (cs := #[.int .i64 pr]) (t := 3) (fr := (0, 0)) (heap_alloc_new WC _)) hone (by omega) (by unfold maxLen; omega) (by omega) ?_ _ rfl (fun g9 cap9 w9 hown9 hgrow hat9 hlt9 => hK _ _ (True.intro) ?_)) AllReadyH.nil
    rotate_left; rotate_left
    ·rw [Z6, hzV]
     omega
    have hb9 : w9.1[X]? = w.1[X]? := (hgrow.block X (by rw [Z6, hzV]; omega) (fun e => hXo e.symm)).trans ((ZB WC _ _ (by rw [hzV]; exact hX)).trans ((hbV).block X hX))
    have c9 : w9.cell? ⟨X, 1, none⟩ = some (.slice fa bn fc) := (World.cell?_of_block (w := w) hb9).trans hcu
    have f9 : w9.frozen? ⟨X, 1, none⟩ = false := (World.frozen?_of_block (w := w) hb9).trans hfz
    refine Z0Z 13 72 (.pointer (some ⟨X, 1, none⟩)) rfl hQ True.intro ?_ ?_; rotate_left
    refine wpAnyH_ready (rs := [14]) (by kernel_rfl) (by simp) ?_
    refine Z1E ⟨none, .store 35 (.tmp 72) (.tmp 71), _, _, _, none⟩ (w9.setCell ⟨X, 1, none⟩ (.slice (some ⟨g9, 0, none⟩) (bn + 1) cap9)) rfl rfl ?_ (True.intro) ?_ AllReadyH.nil; rotate_left
    refine wpAnyH_done (by kernel_rfl) ?_ _
    refine hend _ g9 cap9 WC w9 ?_ ?_ ?_ hbV hzV hown9 hgrow (hat9.imp id (fun h => h.trans (by rw [Z6, hzV])))
    ·simp only [size_put]
    ·intro n hn
     rcases hn with hn | hn
     all_goals
      (simp (disch := omega) only [Z0W, eval_put_ne])
    ·simp only [Z1v]
    all_goals first | (intro w' hS; have hS' := hS; simp (disch := (first | omega | (simp only [size_put]; omega))) only [execOp, eval_put_ne, Z03, h6, h8, h10, h11, h12]; first | rfl | (go_simp; done)) | (simp (disch := (first | omega | (simp only [size_put]; omega))) only [execOp, eval_put_ne, Z03, h6, h8, h10, h11, h12]; done) | (simp (disch := (first | omega | (simp only [size_put]; omega))) only [execOp, eval_put_ne, Z03, h6, h8, h10, h11, h12]; go_simp; done)
   all_goals first | (intro w' hS; have hS' := hS; simp (disch := (first | omega | (simp only [size_put]; omega))) only [execOp, eval_put_ne, Z03, h6, h8, h10, h11, h12]; first | rfl | (go_simp; done)) | (simp (disch := (first | omega | (simp only [size_put]; omega))) only [execOp, eval_put_ne, Z03, h6, h8, h10, h11, h12]; done) | (simp (disch := (first | omega | (simp only [size_put]; omega))) only [execOp, eval_put_ne, Z03, h6, h8, h10, h11, h12]; go_simp; done)
  rotate_left
  ·refine wpAnyH_ready (rs := [1]) (by kernel_rfl) (by simp) ?_
   refine Z0q ⟨some 60, .load 35 (.tmp 59), _, _, _, none⟩ (.slice fa bn fc) (WC.alloc (.cells #[.int .i64 pr] 3)) rfl rfl ?_ (True.intro) ?_ AllReadyH.nil; rotate_left
   ·refine wpAnyH_ready (rs := [12]) (by kernel_rfl) (by simp) ?_
    refine Z2a ⟨some 71, .call { callee := .builtin .append, args := #[.tmp 60, .tmp 70], argTypes := #[35, 35] }, _, _, _, none⟩ rfl rfl (fun K hK => wp_append_lies (WC.alloc (.cells #[.int .i64 pr] 3)) (.tmp 60) (.tmp 70) 35 rfl base 3 i0 (.int .i64 0) 1 8 Tryz.underlying35 hi.1 hi.2.1 hi.2.2.1 hi.2.2.2 rfl (by decide) (.slice fa bn fc) bn xs ?_ ((hown.kept (row := none) (Z0a hbV) (Classical.em _)).alloc _) ⟨WC.1.size, 0, none⟩ 1 1 [.int .i64 pr] ?_ (by rfl) (World.news_of_block (cs := #[.int .i64 pr]) (t := 3) (fr := (0, 0)) (heap_alloc_new WC _)) hone (by omega) (by unfold maxLen; omega) (by omega) ?_ _ rfl (fun g9 cap9 w9 hown9 hgrow hat9 hlt9 => hK _ _ (True.intro) ?_)) AllReadyH.nil
    rotate_left; rotate_left
    ·rw [Z6, hzV]
     omega
    have hb9 : w9.1[X]? = w.1[X]? := (hgrow.block X (by rw [Z6, hzV]; omega) (fun e => hXo e.symm)).trans ((ZB WC _ _ (by rw [hzV]; exact hX)).trans ((hbV).block X hX))
    have c9 : w9.cell? ⟨X, 1, none⟩ = some (.slice fa bn fc) := (World.cell?_of_block (w := w) hb9).trans hcu
    have f9 : w9.frozen? ⟨X, 1, none⟩ = false := (World.frozen?_of_block (w := w) hb9).trans hfz
    refine Z0Z 13 72 (.pointer (some ⟨X, 1, none⟩)) rfl hQ True.intro ?_ ?_; rotate_left
    refine wpAnyH_ready (rs := [14]) (by kernel_rfl) (by simp) ?_
    refine Z1E ⟨none, .store 35 (.tmp 72) (.tmp 71), _, _, _, none⟩ (w9.setCell ⟨X, 1, none⟩ (.slice (some ⟨g9, 0, none⟩) (bn + 1) cap9)) rfl rfl ?_ (True.intro) ?_ AllReadyH.nil; rotate_left
    refine wpAnyH_done (by kernel_rfl) ?_ _
    refine hend _ g9 cap9 WC w9 ?_ ?_ ?_ hbV hzV hown9 hgrow (hat9.imp id (fun h => h.trans (by rw [Z6, hzV])))
    ·simp only [size_put]
    ·intro n hn
     rcases hn with hn | hn
     all_goals
      (simp (disch := omega) only [Z0W, eval_put_ne])
    ·simp only [Z1v]
    all_goals first | (intro w' hS; have hS' := hS; simp (disch := (first | omega | (simp only [size_put]; omega))) only [execOp, eval_put_ne, Z03, h6, h8, h10, h11, h12]; first | rfl | (go_simp; done)) | (simp (disch := (first | omega | (simp only [size_put]; omega))) only [execOp, eval_put_ne, Z03, h6, h8, h10, h11, h12]; done) | (simp (disch := (first | omega | (simp only [size_put]; omega))) only [execOp, eval_put_ne, Z03, h6, h8, h10, h11, h12]; go_simp; done)
   all_goals first | (intro w' hS; have hS' := hS; simp (disch := (first | omega | (simp only [size_put]; omega))) only [execOp, eval_put_ne, Z03, h6, h8, h10, h11, h12]; first | rfl | (go_simp; done)) | (simp (disch := (first | omega | (simp only [size_put]; omega))) only [execOp, eval_put_ne, Z03, h6, h8, h10, h11, h12]; done) | (simp (disch := (first | omega | (simp only [size_put]; omega))) only [execOp, eval_put_ne, Z03, h6, h8, h10, h11, h12]; go_simp; done)
  all_goals first | (intro w' hS; have hS' := hS; simp (disch := (first | omega | (simp only [size_put]; omega))) only [execOp, eval_put_ne, Z03, h6, h8, h10, h11, h12]; first | rfl | (go_simp; done)) | (simp (disch := (first | omega | (simp only [size_put]; omega))) only [execOp, eval_put_ne, Z03, h6, h8, h10, h11, h12]; done) | (simp (disch := (first | omega | (simp only [size_put]; omega))) only [execOp, eval_put_ne, Z03, h6, h8, h10, h11, h12]; go_simp; done)
 all_goals first | (intro w' hS; have hS2 := hS; simp (disch := (first | omega | (simp only [size_put]; omega))) only [execOp, eval_put_ne, Z03, h6, h8, h10, h11, h12]; first | rfl | (go_simp; done)) | (simp (disch := (first | omega | (simp only [size_put]; omega))) only [execOp, eval_put_ne, Z03, h6, h8, h10, h11, h12]; done) | (simp (disch := (first | omega | (simp only [size_put]; omega))) only [execOp, eval_put_ne, Z03, h6, h8, h10, h11, h12]; go_simp; done)
theorem Tryz.infoZone : (Tryz.prog.info? 93).map (fun i => (i.zero, i.size, i.bytes)) = some (some (.agg #[.string ⟨#[]⟩, .string ⟨#[]⟩, .int .i64 0]), 3, 40) := by kernel_rfl
noncomputable def Z5N : Array Oper := (Tryz.f9.body.bind (Z1L 22)).getD #[]
set_option linter.unusedSimpArgs false in
theorem Zg1 (a : Act) (w : World) (Q : Exit -> Act -> World -> Prop) {Z : Nat} {fr tl : ByteArray} {zn zs i rm : Int} {X bn fc base : Nat} {fa : Option Addr} {xs : List Value} (hsz : 121 <= a.tmps.size) (hQ : ∀ c (a : Act) (d : Nat) (v : Value) w, Q (.panic c) (a.put (some d) v) w -> Q (.panic c) a w)
 (h5 : a.eval (.tmp 5) = .int .i64 zs) (h7 : a.eval (.tmp 7) = .pointer (some ⟨X, 0, none⟩)) (h13 : a.eval (.tmp 13) = .int .i64 i) (h14 : a.eval (.tmp 14) = .pointer (some ⟨Z, 0, none⟩)) (hz0 : ¬ zs = 0) (hrm : i.tmod zs = rm) (hrw : IntKind.i64.wrap rm = rm) (hw2 : IntKind.i64.wrap (1 + rm) = zn)
 (hZ0 : w.cell? ⟨Z, 0, none⟩ = some (.string fr)) (hZ1 : w.cell? ⟨Z, 1, none⟩ = some (.string tl)) (hZX : Z ≠ X) (hZw : Z < w.1.size) (hZo : (Value.slice fa bn fc).ownBlock ≠ some Z)
 (hcu : w.cell? ⟨X, 1, none⟩ = some (.slice fa bn fc)) (hfz : w.frozen? ⟨X, 1, none⟩ = false) (hX : X < w.1.size)
 (hone : ∀ v ∈ ([.string fr, .string tl, .int .i64 zn] : List Value), v.oneCell' = true) (hown : w.ownsRow base 93 3 (.slice fa bn fc) bn xs) (hbase : base <= w.1.size) (hXo : (Value.slice fa bn fc).ownBlock ≠ some X) (hbn : bn <= 100000)
 (hend : ∀ a' g9 cap9 (W w9 : World), a'.tmps.size = a.tmps.size -> (∀ n : Nat, n < 107 \/ 121 <= n -> a'.eval (.tmp n) = a.eval (.tmp n)) -> a'.defers = a.defers -> Below w.1.size w W -> W.1.size = w.1.size -> w9.ownsRow base 93 3 (.slice (some ⟨g9, 0, none⟩) (bn + 1) cap9) (bn + 1) (xs ++ [.string fr, .string tl, .int .i64 zn]) -> (W.alloc (.cells #[.string fr, .string tl, .int .i64 zn] 93)).grownBy w9 (Value.slice fa bn fc).ownBlock -> ((Value.slice fa bn fc).ownBlock = some g9 \/ g9 = w.1.size + 1) -> Q .normal a' (w9.setCell ⟨X, 1, none⟩ (.slice (some ⟨g9, 0, none⟩) (bn + 1) cap9))) :
 (Code.region 22 Z5N true).wp Tryz.prog Q a w := by
 have hs107 : 107 < a.tmps.size := (by omega); have hs108 : 108 < a.tmps.size := (by omega); have hs109 : 109 < a.tmps.size := (by omega); have hs110 : 110 < a.tmps.size := (by omega); have hs111 : 111 < a.tmps.size := (by omega); have hs112 : 112 < a.tmps.size := (by omega); have hs113 : 113 < a.tmps.size := (by omega); have hs114 : 114 < a.tmps.size := (by omega); have hs115 : 115 < a.tmps.size := (by omega); have hs116 : 116 < a.tmps.size := (by omega); have hs117 : 117 < a.tmps.size := (by omega); have hs118 : 118 < a.tmps.size := (by omega); have hs119 : 119 < a.tmps.size := (by omega); have hs120 : 120 < a.tmps.size := (by omega)
 have hkA : (w.drew.alloc (.cells #[.string fr, .string tl, .int .i64 zn] 93)).cell? ⟨Z, 0, none⟩ = some (.string fr) /\ (w.drew.alloc (.cells #[.string fr, .string tl, .int .i64 zn] 93)).cell? ⟨Z, 1, none⟩ = some (.string tl) := ⟨(World.cell?_of_block (w := w) (ZB w.drew _ _ hZw)).trans hZ0, (World.cell?_of_block (w := w) (ZB w.drew _ _ hZw)).trans hZ1⟩
 have hk9 : ∀ w9 : World, (w.drew.alloc (.cells #[.string fr, .string tl, .int .i64 zn] 93)).grownBy w9 (Value.slice fa bn fc).ownBlock -> w9.cell? ⟨Z, 0, none⟩ = some (.string fr) /\ w9.cell? ⟨Z, 1, none⟩ = some (.string tl) := fun w9 hg => by
  have hb : w9.1[Z]? = w.1[Z]? := (hg.block Z (by rw [Z6]; show Z < w.1.size + 1; omega) (fun e => hZo e.symm)).trans (ZB w.drew _ _ hZw)
  exact ⟨(World.cell?_of_block (w := w) hb).trans hZ0, (World.cell?_of_block (w := w) hb).trans hZ1⟩
 obtain ⟨i0, hi⟩ := info_parts Tryz.infoZone
 conv =>
  pattern Z5N
  unfold Z5N
  whnf
 refine wp_region_held_drew (S := fun w' => w'.cell? ⟨Z, 0, none⟩ = some (.string fr) /\ w'.cell? ⟨Z, 1, none⟩ = some (.string tl)) (by kernel_rfl) (⟨hZ0, hZ1⟩) (fun hHeld => ?_)
 have hbW : Below w.1.size w w.drew := (Z9 _ w).drew
 have hzW : w.drew.1.size = w.1.size := rfl
 refine Z0Z 0 107 (.pointer (some ⟨X, 1, none⟩)) rfl hQ hHeld ?_ ?_; rotate_left
 refine Z0Z 2 109 (.pointer (some ⟨Z, 0, none⟩)) rfl hQ hHeld ?_ ?_; rotate_left
 refine Z0Z 3 110 (.string fr) rfl hQ hHeld ?_ ?_; rotate_left
 refine Z0Z 4 111 (.pointer (some ⟨Z, 1, none⟩)) rfl hQ hHeld ?_ ?_; rotate_left
 refine Z0Z 5 112 (.string tl) rfl hQ hHeld ?_ ?_; rotate_left
 refine Z0Z 6 113 (.int .i64 i) rfl hQ hHeld ?_ ?_; rotate_left
 refine Z0Z 7 114 (.int .i64 zs) rfl hQ hHeld ?_ ?_; rotate_left
 refine Z0Z 8 115 (.int .i64 rm) rfl hQ hHeld ?_ ?_; rotate_left
 refine Z0Z 9 116 (.int .i64 zn) rfl hQ hHeld ?_ ?_; rotate_left
 refine Z0Z 10 117 (.agg #[.string fr, .string tl, .int .i64 zn]) rfl hQ hHeld ?_ ?_; rotate_left
 refine wpAnyH_ready (rs := [1, 11]) (by kernel_rfl) (by simp) ?_
 refine Z0q ⟨some 108, .load 27 (.tmp 107), _, _, _, none⟩ (.slice fa bn fc) w.drew rfl rfl ?_ (⟨hZ0, hZ1⟩) ?_ (Z0q ⟨some 118, .buildSlice 27 1 #[(0, .tmp 117)], _, _, _, none⟩ (.slice (some ⟨w.drew.1.size, 0, none⟩) 1 1) (w.drew.alloc (.cells #[.string fr, .string tl, .int .i64 zn] 93)) rfl rfl ?_ (hkA) ?_ AllReadyH.nil); rotate_left
 ·refine wpAnyH_ready (rs := [11]) (by kernel_rfl) (by simp) ?_
  refine Z0q ⟨some 118, .buildSlice 27 1 #[(0, .tmp 117)], _, _, _, none⟩ (.slice (some ⟨w.drew.1.size, 0, none⟩) 1 1) (w.drew.alloc (.cells #[.string fr, .string tl, .int .i64 zn] 93)) rfl rfl ?_ (hkA) ?_ AllReadyH.nil; rotate_left
  ·refine wpAnyH_ready (rs := [12]) (by kernel_rfl) (by simp) ?_
   refine Z2a ⟨some 119, .call { callee := .builtin .append, args := #[.tmp 108, .tmp 118], argTypes := #[27, 27] }, _, _, _, none⟩ rfl rfl (fun K hK => wp_append_lies (w.drew.alloc (.cells #[.string fr, .string tl, .int .i64 zn] 93)) (.tmp 108) (.tmp 118) 27 rfl base 93 i0 (.agg #[.string ⟨#[]⟩, .string ⟨#[]⟩, .int .i64 0]) 3 40 Tryz.underlying27 hi.1 hi.2.1 hi.2.2.1 hi.2.2.2 rfl (by decide) (.slice fa bn fc) bn xs ?_ ((hown.kept (row := none) (Z0a hbW) (Classical.em _)).alloc _) ⟨w.drew.1.size, 0, none⟩ 1 1 [.string fr, .string tl, .int .i64 zn] ?_ (by rfl) (World.news_of_block (cs := #[.string fr, .string tl, .int .i64 zn]) (t := 93) (fr := (0, 0)) (heap_alloc_new w.drew _)) hone (by omega) (by unfold maxLen; omega) (by omega) ?_ _ rfl (fun g9 cap9 w9 hown9 hgrow hat9 hlt9 => hK _ _ ((hk9 w9 hgrow)) ?_)) AllReadyH.nil
   rotate_left; rotate_left
   ·rw [Z6, hzW]
    omega
   have hb9 : w9.1[X]? = w.1[X]? := (hgrow.block X (by rw [Z6, hzW]; omega) (fun e => hXo e.symm)).trans ((ZB w.drew _ _ (by rw [hzW]; exact hX)).trans ((hbW).block X hX))
   have c9 : w9.cell? ⟨X, 1, none⟩ = some (.slice fa bn fc) := (World.cell?_of_block (w := w) hb9).trans hcu
   have f9 : w9.frozen? ⟨X, 1, none⟩ = false := (World.frozen?_of_block (w := w) hb9).trans hfz
   refine Z0Z 13 120 (.pointer (some ⟨X, 1, none⟩)) rfl hQ (hk9 w9 hgrow) ?_ ?_; rotate_left
   refine wpAnyH_ready (rs := [14]) (by kernel_rfl) (by simp) ?_
   refine Z1E ⟨none, .store 27 (.tmp 120) (.tmp 119), _, _, _, none⟩ (w9.setCell ⟨X, 1, none⟩ (.slice (some ⟨g9, 0, none⟩) (bn + 1) cap9)) rfl rfl ?_ (⟨(World.cell?_of_block (w := w9) (ZA _ _ _ _ hZX)).trans (hk9 w9 hgrow).1, (World.cell?_of_block (w := w9) (ZA _ _ _ _ hZX)).trans (hk9 w9 hgrow).2⟩) ?_ AllReadyH.nil; rotate_left
   refine wpAnyH_done (by kernel_rfl) ?_ _
   refine hend _ g9 cap9 w.drew w9 ?_ ?_ ?_ hbW hzW hown9 hgrow (hat9.imp id (fun h => h.trans (by rw [Z6, hzW])))
   ·simp only [size_put]
   ·intro n hn
    rcases hn with hn | hn
    all_goals
     (simp (disch := omega) only [Z0W, eval_put_ne])
   ·simp only [Z1v]
   all_goals first | (intro w' hS; obtain ⟨c0, c1⟩ := hS; simp (disch := (first | omega | (simp only [size_put]; omega))) only [execOp, eval_put_ne, Z03, h5, h7, h13, h14]; first | rfl | (go_simp; done)) | (simp (disch := (first | omega | (simp only [size_put]; omega))) only [execOp, eval_put_ne, Z03, h5, h7, h13, h14]; done) | (simp (disch := (first | omega | (simp only [size_put]; omega))) only [execOp, eval_put_ne, Z03, h5, h7, h13, h14]; go_simp; done)
  all_goals first | (intro w' hS; obtain ⟨c0, c1⟩ := hS; simp (disch := (first | omega | (simp only [size_put]; omega))) only [execOp, eval_put_ne, Z03, h5, h7, h13, h14]; first | rfl | (go_simp; done)) | (simp (disch := (first | omega | (simp only [size_put]; omega))) only [execOp, eval_put_ne, Z03, h5, h7, h13, h14]; done) | (simp (disch := (first | omega | (simp only [size_put]; omega))) only [execOp, eval_put_ne, Z03, h5, h7, h13, h14]; go_simp; done)
 rotate_left
 ·refine wpAnyH_ready (rs := [1]) (by kernel_rfl) (by simp) ?_
  refine Z0q ⟨some 108, .load 27 (.tmp 107), _, _, _, none⟩ (.slice fa bn fc) (w.drew.alloc (.cells #[.string fr, .string tl, .int .i64 zn] 93)) rfl rfl ?_ (hkA) ?_ AllReadyH.nil; rotate_left
  ·refine wpAnyH_ready (rs := [12]) (by kernel_rfl) (by simp) ?_
   refine Z2a ⟨some 119, .call { callee := .builtin .append, args := #[.tmp 108, .tmp 118], argTypes := #[27, 27] }, _, _, _, none⟩ rfl rfl (fun K hK => wp_append_lies (w.drew.alloc (.cells #[.string fr, .string tl, .int .i64 zn] 93)) (.tmp 108) (.tmp 118) 27 rfl base 93 i0 (.agg #[.string ⟨#[]⟩, .string ⟨#[]⟩, .int .i64 0]) 3 40 Tryz.underlying27 hi.1 hi.2.1 hi.2.2.1 hi.2.2.2 rfl (by decide) (.slice fa bn fc) bn xs ?_ ((hown.kept (row := none) (Z0a hbW) (Classical.em _)).alloc _) ⟨w.drew.1.size, 0, none⟩ 1 1 [.string fr, .string tl, .int .i64 zn] ?_ (by rfl) (World.news_of_block (cs := #[.string fr, .string tl, .int .i64 zn]) (t := 93) (fr := (0, 0)) (heap_alloc_new w.drew _)) hone (by omega) (by unfold maxLen; omega) (by omega) ?_ _ rfl (fun g9 cap9 w9 hown9 hgrow hat9 hlt9 => hK _ _ ((hk9 w9 hgrow)) ?_)) AllReadyH.nil
   rotate_left; rotate_left
   ·rw [Z6, hzW]
    omega
   have hb9 : w9.1[X]? = w.1[X]? := (hgrow.block X (by rw [Z6, hzW]; omega) (fun e => hXo e.symm)).trans ((ZB w.drew _ _ (by rw [hzW]; exact hX)).trans ((hbW).block X hX))
   have c9 : w9.cell? ⟨X, 1, none⟩ = some (.slice fa bn fc) := (World.cell?_of_block (w := w) hb9).trans hcu
   have f9 : w9.frozen? ⟨X, 1, none⟩ = false := (World.frozen?_of_block (w := w) hb9).trans hfz
   refine Z0Z 13 120 (.pointer (some ⟨X, 1, none⟩)) rfl hQ (hk9 w9 hgrow) ?_ ?_; rotate_left
   refine wpAnyH_ready (rs := [14]) (by kernel_rfl) (by simp) ?_
   refine Z1E ⟨none, .store 27 (.tmp 120) (.tmp 119), _, _, _, none⟩ (w9.setCell ⟨X, 1, none⟩ (.slice (some ⟨g9, 0, none⟩) (bn + 1) cap9)) rfl rfl ?_ (⟨(World.cell?_of_block (w := w9) (ZA _ _ _ _ hZX)).trans (hk9 w9 hgrow).1, (World.cell?_of_block (w := w9) (ZA _ _ _ _ hZX)).trans (hk9 w9 hgrow).2⟩) ?_ AllReadyH.nil; rotate_left
   refine wpAnyH_done (by kernel_rfl) ?_ _
   refine hend _ g9 cap9 w.drew w9 ?_ ?_ ?_ hbW hzW hown9 hgrow (hat9.imp id (fun h => h.trans (by rw [Z6, hzW])))
   ·simp only [size_put]
   ·intro n hn
    rcases hn with hn | hn
    all_goals
     (simp (disch := omega) only [Z0W, eval_put_ne])
   ·simp only [Z1v]
   all_goals first | (intro w' hS; obtain ⟨c0, c1⟩ := hS; simp (disch := (first | omega | (simp only [size_put]; omega))) only [execOp, eval_put_ne, Z03, h5, h7, h13, h14]; first | rfl | (go_simp; done)) | (simp (disch := (first | omega | (simp only [size_put]; omega))) only [execOp, eval_put_ne, Z03, h5, h7, h13, h14]; done) | (simp (disch := (first | omega | (simp only [size_put]; omega))) only [execOp, eval_put_ne, Z03, h5, h7, h13, h14]; go_simp; done)
  all_goals first | (intro w' hS; obtain ⟨c0, c1⟩ := hS; simp (disch := (first | omega | (simp only [size_put]; omega))) only [execOp, eval_put_ne, Z03, h5, h7, h13, h14]; first | rfl | (go_simp; done)) | (simp (disch := (first | omega | (simp only [size_put]; omega))) only [execOp, eval_put_ne, Z03, h5, h7, h13, h14]; done) | (simp (disch := (first | omega | (simp only [size_put]; omega))) only [execOp, eval_put_ne, Z03, h5, h7, h13, h14]; go_simp; done)
 all_goals first | (intro w' hS; obtain ⟨c0, c1⟩ := hS; simp (disch := (first | omega | (simp only [size_put]; omega))) only [execOp, eval_put_ne, Z03, h5, h7, h13, h14]; first | rfl | (go_simp; done)) | (simp (disch := (first | omega | (simp only [size_put]; omega))) only [execOp, eval_put_ne, Z03, h5, h7, h13, h14]; done) | (simp (disch := (first | omega | (simp only [size_put]; omega))) only [execOp, eval_put_ne, Z03, h5, h7, h13, h14]; go_simp; done)
abbrev Z77 (w : World) (base : Nat) (v : Value) (l : List Stp) : Prop := OwnsX 95 2 Z8j (fun s : Stp => s.cents) w base v l
def Z3Q (p : Rat × Value) : List Value := [.int .u8 p.1.cls, p.2, .int .i64 p.1.bar]
def OwnsRt (w : World) (base : Nat) (v : Value) (l : List Rat) : Prop :=
 ∃ L : List (Rat × Value), L.map Prod.fst = l /\ (∀ p ∈ L, Z77 w base p.2 p.1.steps) /\ w.ownsRow base 60 3 v L.length (L.flatMap Z3Q)
section
variable {w w' : World} {base : Nat} {v : Value} {l : List Rat}
theorem OwnsRt.nil (w : World) (base : Nat) : OwnsRt w base (.slice none 0 0) [] := ⟨[], rfl, by simp, World.ownsRow_nil _ _ _ _⟩
theorem OwnsRt.below (h : OwnsRt w base v l) (hb : Below w.1.size w w') : OwnsRt w' base v l := by
 obtain ⟨L, hL, h1, h2⟩ := h
 exact ⟨L, hL, fun p hp => (h1 p hp).below hb, Z09 h2 hb⟩
theorem OwnsRt.form (h : OwnsRt w base v l) : ∃ a cap, v = .slice a l.length cap := by
 obtain ⟨L, rfl, _, ho⟩ := h
 rw [Z7]
 exact Z0B ho
theorem OwnsRt.beside {row : Option Nat} (h : OwnsRt w base v l) (hg : w.grownBy w' row) (h1 : ∀ g, row = some g -> ∀ cur fr, w.1[g]? ≠ some (.cells cur 60 fr)) (h2 : ∀ g, row = some g -> ∀ cur fr, w.1[g]? ≠ some (.cells cur 95 fr))
 (h3 : ∀ g, row = some g -> ∀ cur fr, w.1[g]? ≠ some (.cells cur 3 fr)) : OwnsRt w' base v l := by
 obtain ⟨L, hL, k1, k2⟩ := h
 exact ⟨L, hL, fun p hp => (k1 p hp).beside hg h2 h3, Z0v k2 hg h1⟩
theorem OwnsRt.rd (h : OwnsRt w base v l) : RdRates w v l := by
 obtain ⟨L, rfl, h1, ho⟩ := h
 obtain ⟨a, c, hv⟩ := Z0B ho
 subst hv
 refine ⟨a, c, by rw [Z7], fun h0 => ?_⟩
 rw [Z7] at h0
 rcases Joins.ownsRow_forms ho with ⟨hv, hp⟩ | ⟨g, cap, hv⟩
 ·omega
 ·injection hv with hv1 hv2 hv3
  subst hv1
  refine ⟨g, 0, rfl, (ho.lt g rfl).2, fun i hi => ?_⟩
  have hi' : i < L.length := by rw [Z7] at hi; exact hi
  have e : (L.map Prod.fst)[i] = (L[i]).1 := by simp
  rw [e]
  have hst : Z30 w (L[i]).2 (L[i]).1.steps := OwnsX.rd (n := 2) (fun _ => rfl) (h1 _ (Z4 hi'))
  have hc : ∀ j, j < 3 -> w.cell? ⟨g, 0 + i * 3 + j, none⟩ = (Z3Q L[i])[j]? := fun j hj => by
   rw [Nat.zero_add, ho.cellAt _ (by omega), Z3Z (n := 3) (fun _ => rfl) L i j hi' hj]
  exact ⟨(L[i]).2, hst, (hc 0 (by omega)).trans rfl, (hc 1 (by omega)).trans rfl, (hc 2 (by omega)).trans rfl⟩
end
theorem ZcK {w w2 : World} {base : Nat} {v v' sv : Value} {L : List (Rat × Value)} {r : Rat} (h1 : ∀ p ∈ L, Z77 w base p.2 p.1.steps) (h2 : Z77 w base sv r.steps) (hO : w.ownsRow base 60 3 v L.length (L.flatMap Z3Q)) (hg : w.grownBy w2 v.ownBlock)
 (ho : w2.ownsRow base 60 3 v' (L.length + 1) (L.flatMap Z3Q ++ Z3Q (r, sv))) : OwnsRt w2 base v' (L.map Prod.fst ++ [r]) := by
 refine ⟨L ++ [(r, sv)], by simp, fun p hp => ?_, ?_⟩
 ·rcases ZG.1 hp with hp | hp
  ·exact (h1 p hp).beside hg (Z0r hO (by decide)) (Z0r hO (by decide))
  ·obtain rfl := ZI.1 hp
   exact h2.beside hg (Z0r hO (by decide)) (Z0r hO (by decide))
 ·rw [List.flatMap_append, ZC]
  simpa using ho
def znC (z : Zn) : List Value := [.string z.fr, .string z.till, .int .i64 z.zone]
theorem Zbq {w : World} {base : Nat} {v : Value} {l : List Zn} (ho : w.ownsRow base 93 3 v l.length (l.flatMap znC)) : RdZones w v l := by
 obtain ⟨a, c, hv⟩ := Z0B ho
 subst hv
 refine ⟨a, c, rfl, fun h0 => ?_⟩
 rcases Joins.ownsRow_forms ho with ⟨hv, hp⟩ | ⟨g, cap, hv⟩
 ·omega
 ·injection hv with hv1 hv2 hv3
  subst hv1
  refine ⟨g, 0, rfl, (ho.lt g rfl).2, fun i hi => ?_⟩
  have hc : ∀ j, j < 3 -> w.cell? ⟨g, 0 + i * 3 + j, none⟩ = (znC l[i])[j]? := fun j hj => by
   rw [Nat.zero_add, ho.cellAt _ (by omega), Z3Z (n := 3) (fun _ => rfl) l i j hi hj]
  exact ⟨(hc 0 (by omega)).trans rfl, (hc 1 (by omega)).trans rfl, (hc 2 (by omega)).trans rfl⟩
theorem Z5h (a m j : Nat) (ha : a < 4294967296) (hm : m = 2 ^ j - 1) (hj : j <= 32) : bits .and .u32 (a : Int) (m : Int) = ((a % 2 ^ j : Nat) : Int) := by
 have hm2 : m < 4294967296 := by
  have : 2 ^ j <= 2 ^ 32 := Nat.pow_le_pow_right (by decide) hj
  have h0 : 0 < 2 ^ j := Nat.pow_pos (by decide)
  omega
 have h1 : (BitVec.ofInt 32 (a : Int)).toNat = a := by
  rw [BitVec.ofInt_natCast, BitVec.toNat_ofNat]; exact Nat.mod_eq_of_lt (by omega)
 have h2 : (BitVec.ofInt 32 (m : Int)).toNat = m := by
  rw [BitVec.ofInt_natCast, BitVec.toNat_ofNat]; exact Nat.mod_eq_of_lt (by omega)
 have hw : ∀ n : Int, IntKind.u32.wrap n = n % 4294967296 := fun n => by simp [IntKind.wrap, IntKind.bits, IntKind.signed]
 show IntKind.u32.wrap ((BitVec.ofInt 32 (a : Int) &&& BitVec.ofInt 32 (m : Int)).toNat : Int) = _
 rw [BitVec.toNat_and, h1, h2, hw, hm, Nat.and_two_pow_sub_one_eq_mod]
 have : a % 2 ^ j <= a := Nat.mod_le _ _
 omega
structure Masks (N : Nat) (n q4 z3 qa ra bb qs rs : Int) : Prop where
 h4 : bits .and .u32 (n / 16) 3 = q4
 t4 : q4.tmod 3 = z3
 z3 : z3 = (Z1p N : Nat) - 1
 ha : bits .and .u32 n 3 = qa
 ta : qa.tmod 3 = ra
 ra : ra = (Z32 N : Nat) - 1
 hb : bits .and .u32 (n / 64) 31 = bb
 bb : bb = (Z90 N : Nat)
 hs : bits .and .u32 (n / 4) 3 = qs
 ts : qs.tmod 3 = rs
 rs : rs = (Z49 N : Nat) - 1
 q : 0 <= q4 /\ q4 <= 3 /\ 0 <= qa /\ qa <= 3 /\ 0 <= qs /\ qs <= 3
 bit : ∀ k : Nat, k < 9 -> decide (0 < bits .and .u32 (n / 2 ^ (11 + k)) 1) = Zh0 N k
theorem ZeB (N : Nat) (hN : N < 4294967296) : ∃ q4 z3 qa ra bb qs rs, Masks N (N : Int) q4 z3 qa ra bb qs rs := by
 have hd : ∀ d : Nat, (N : Int) / (d : Int) = ((N / d : Nat) : Int) := fun d => by simp
 have hm : ∀ (a : Nat), a < 4294967296 -> bits .and .u32 (a : Int) 3 = ((a % 4 : Nat) : Int) := fun a ha => Z5h a 3 2 ha rfl (by decide)
 have tm : ∀ a : Nat, ((a : Nat) : Int).tmod 3 = ((a % 3 : Nat) : Int) := fun a => by rw [Int.tmod_eq_emod_of_nonneg (Int.natCast_nonneg _)]; rfl
 refine ⟨((N / 16 % 4 : Nat) : Int), ((N / 16 % 4 % 3 : Nat) : Int), ((N % 4 : Nat) : Int), ((N % 4 % 3 : Nat) : Int), ((N / 64 % 32 : Nat) : Int), ((N / 4 % 4 : Nat) : Int), ((N / 4 % 4 % 3 : Nat) : Int), ?_⟩
 refine ⟨?_, tm _, ?_, hm N hN, tm _, ?_, ?_, rfl, ?_, tm _, ?_, by omega, fun k hk => ?_⟩
 ·rw [show (16 : Int) = ((16 : Nat) : Int) from rfl, hd]; exact hm _ (by omega)
 ·unfold Z1p; omega
 ·unfold Z32; omega
 ·rw [show (64 : Int) = ((64 : Nat) : Int) from rfl, hd]; exact Z5h _ 31 5 (by omega) rfl (by decide)
 ·rw [show (4 : Int) = ((4 : Nat) : Int) from rfl, hd]; exact hm _ (by omega)
 ·unfold Z49; omega
 ·have e : ((N : Int) / 2 ^ (11 + k)) = ((N / 2 ^ (11 + k) : Nat) : Int) := by simp
  have hlt : N / 2 ^ (11 + k) < 4294967296 := Nat.lt_of_le_of_lt (Nat.div_le_self _ _) hN
  rw [e, show (1 : Int) = ((1 : Nat) : Int) from rfl, Z5h _ 1 1 hlt rfl (by decide)]
  unfold Zh0
  have h2 := Nat.mod_lt (N / 2 ^ (11 + k)) (show 0 < 2 by decide)
  by_cases h1 : N / 2 ^ (11 + k) % 2 = 1
  ·rw [decide_eq_true h1]
   exact decide_eq_true (by rw [show 2 ^ 1 = 2 from rfl, h1]; decide)
  ·rw [decide_eq_false h1]
   exact decide_eq_false (by rw [show 2 ^ 1 = 2 from rfl]; omega)
theorem ZcJ (ps : List UInt8) (N k : Nat) : (List.range (k + 1)).map (Z1c ps N) = (List.range k).map (Z1c ps N) ++ [Z1c ps N k] := by rw [List.range_succ, ZD]; rfl
theorem Zcx (ps : List UInt8) (Z c k : Nat) : (List.range (k + 1)).map (Z3e ps Z c) = (List.range k).map (Z3e ps Z c) ++ [Z3e ps Z c k] := by rw [List.range_succ, ZD]; rfl
abbrev ZcQ : Array Value := (pairsN.flatMap (fun p => [Value.string p.1, Value.string p.2])).toArray
theorem Zjp {w : World} {g : Nat} {a0 a1 b0 b1 : Value} {t : TypeId} {fr : Nat × Nat} (h : w.1[g]? = some (.cells #[a0, a1] t fr)) : ((w.setCell ⟨g, 0, none⟩ b0).setCell ⟨g, 1, none⟩ b1).1[g]? = some (.cells #[b0, b1] t fr) := by
 simp [World.setCell, Array.getElem?_modify, h]
theorem Z8k {w : World} {g : Nat} {a0 a1 b1 : Value} {t : TypeId} {fr : Nat × Nat} (h : w.1[g]? = some (.cells #[a0, a1] t fr)) : (w.setCell ⟨g, 1, none⟩ b1).1[g]? = some (.cells #[a0, b1] t fr) /\ (w.setCell ⟨g, 0, none⟩ b1).1[g]? = some (.cells #[b1, a1] t fr) := by
 simp [World.setCell, Array.getElem?_modify, h]
theorem ZhG {w : World} {g : Nat} {a0 a1 a2 b1 : Value} {t : TypeId} {fr : Nat × Nat} (h : w.1[g]? = some (.cells #[a0, a1, a2] t fr)) : (w.setCell ⟨g, 1, none⟩ b1).1[g]? = some (.cells #[a0, b1, a2] t fr) := by
 simp [World.setCell, Array.getElem?_modify, h]
theorem Z0L {w : World} {g : Nat} {cs : Array Value} {t T : TypeId} {fr : Nat × Nat} (h : w.1[g]? = some (.cells cs t fr)) (ht : t ≠ T) : ∀ q, some g = some q -> ∀ cur fr', w.1[q]? ≠ some (.cells cur T fr') := fun q e cur fr' e2 => by
 injection e with e
 rw [<- e, h] at e2
 injection e2 with e2
 injection e2 with e3 e4 e5
 exact ht e4
theorem Z7p (N k : Nat) : Z0u N (k + 1) = if Zh0 N k = true then Z0u N k ++ [Zjd (Z1p N) k] else Z0u N k := by
 unfold Z0u
 rw [List.range_succ, List.filter_append, ZD]
 cases h : Zh0 N k
 ·rw [List.filter_cons_of_neg (by simp [h]), List.filter_nil, List.map_nil, List.append_nil]; simp
 ·rw [List.filter_cons_of_pos h, List.filter_nil]; simp
theorem Zdt (N : Nat) : ∀ k, (Z0u N k).length <= k + 1 := fun k => by
 unfold Z0u
 have := List.length_filter_le (Zh0 N) (List.range k)
 rw [List.length_range] at this
 rw [List.length_cons, Z7]
 omega
theorem ZhR {k : Nat} (h : k < 9) : ZcQ[k * 2]? = some (.string (pairsN.getD k (⟨#[]⟩, ⟨#[]⟩)).1) /\ ZcQ[k * 2 + 1]? = some (.string (pairsN.getD k (⟨#[]⟩, ⟨#[]⟩)).2) := by
 have : k = 0 \/ k = 1 \/ k = 2 \/ k = 3 \/ k = 4 \/ k = 5 \/ k = 6 \/ k = 7 \/ k = 8 := by omega
 rcases this with rfl | rfl | rfl | rfl | rfl | rfl | rfl | rfl | rfl <;> exact ⟨rfl, rfl⟩
theorem Tryz.infoStep : (Tryz.prog.info? 95).map (fun i => (i.zero, i.size, i.bytes)) = some (some (.agg #[.int .i64 0, .slice none 0 0]), 2, 32) := by kernel_rfl
theorem Tryz.infoRate : (Tryz.prog.info? 60).map (fun i => (i.zero, i.size, i.bytes)) = some (some (.agg #[.int .u8 0, .slice none 0 0, .int .i64 0]), 3, 40) := by kernel_rfl
theorem Zd3 (N : Nat) (ps : List UInt8) (vp : Value) (w : World) (hN : N < 4294967296) (hr : RdBytes w vp ps) (hl : ps.length <= maxLen) :
 Calls Tryz.prog 9 #[.int .u32 (N : Nat), vp] w fun e w' => ∃ a ca b cb, e = .returned (.agg #[.slice a (Z32 N) ca, .slice b (Z0u N 9).length cb]) /\ Below w.1.size w w' /\ RdTar w' (.slice a (Z32 N) ca) (.slice b (Z0u N 9).length cb) (Z1D N ps) := by
 obtain ⟨q4, z3, qa, ra, bb, qs, rs, hm⟩ := ZeB N hN
 obtain ⟨n, hn⟩ : ∃ n : Int, n = (N : Int) := ⟨_, rfl⟩
 rw [<- hn] at hm ⊢
 have HM := Z0 hm
 obtain ⟨e4, t4, e3, ea, ta, era, eb, ebb, es, ts, ers, ⟨u1, u2, u3, u4, u5, u6⟩, hbt⟩ := hm
 clear hbt
 obtain ⟨Z, hZ⟩ : ∃ Z, Z = Z1p N := ⟨_, rfl⟩
 obtain ⟨K, hK⟩ : ∃ K, K = Z32 N := ⟨_, rfl⟩
 obtain ⟨S, hS⟩ : ∃ S, S = Z49 N := ⟨_, rfl⟩
 have hZ3 := Z91 N
 have hK3 := Z6e N
 have hS3 := Z63 N
 have hB3 : 0 <= ((Z90 N : Nat) : Int) /\ ((Z90 N : Nat) : Int) <= 31 := by unfold Z90; omega
 rw [<- hZ] at e3 hZ3
 rw [<- hK] at era hK3
 rw [<- hS] at ers hS3
 have hn0 : 0 <= n := by omega
 have hn1 : n < 4294967296 := by omega
 have hwz3 : IntKind.i64.wrap (1 + z3) = (Z : Int) := by simp [IntKind.wrap, IntKind.bits, IntKind.signed]; omega
 have hz30 : 0 <= z3 /\ z3 <= 2 := by omega
 have hra0 : 0 <= ra /\ ra <= 2 := by omega
 have hrs0 : 0 <= rs /\ rs <= 2 := by omega
 have hbb0 : 0 <= bb /\ bb <= 31 := by omega
 have HZ := Z0 hZ
 have HK := Z0 hK
 have HS := Z0 hS
 have HE3 := Z0 e3
 have HRA := Z0 era
 have HRS := Z0 ers
 have HBB := Z0 ebb
 have HRD := Z0 hr
 have HLL := Z0 hl
 have HN := Z0 hn
 clear hZ hK hS e3 era ers ebb hr hl hn hN
 obtain ⟨va, vc, hvp⟩ : ∃ a c, vp = .slice a ps.length c := by obtain ⟨a, c, h, _⟩ := HRD.out; exact ⟨a, c, h⟩
 go_enter Tryz.func9, Tryz.ntmps9
 go_wp2_with fail
 subst hvp
 obtain ⟨t1, t2, t3, t4, t5, t6⟩ := Z4B (w := w) (A := .cells #[.slice va ps.length vc] 23) (B := .cells #[.slice none 0 0, .slice none 0 0] 29) (C := .cells #[.string ⟨#[]⟩, .string ⟨#[]⟩, .int .i64 1] 93) (D := .cells #[.slice none 0 0, .slice (some ⟨w.1.size + 1 + 1, 0, none⟩) 1 1] 29) rfl
 have HT1 := Z0 t1
 have HT2 := Z0 t2
 have HT3 := Z0 t3
 have HT4 := Z0 t4
 have HT6 := Z0 t6
 obtain ⟨i0, hi⟩ := info_parts Tryz.infoStep
 have HI := Z0 hi
 obtain ⟨j0, hj⟩ := info_parts Tryz.infoRate
 have HJ := Z0 hj
 clear t1 t2 t3 t4 t6 hi hj
 go_loopw [8] (fun c wr => ∃ (k : Nat) (v : Value), k <= K /\ c = .int .i64 k /\ Below w.1.size w wr /\ w.1.size + 4 <= wr.1.size /\ wr.1[w.1.size]? = some (.cells #[.slice va ps.length vc] 23 (0, 0)) /\ wr.1[w.1.size + 1]? = some (.cells #[.slice none 0 0, .slice none 0 0] 29 (0, 0)) /\ wr.1[w.1.size + 1 + 1]? = some (.cells #[.string ⟨#[]⟩, .string ⟨#[]⟩, .int .i64 1] 93 (0, 0)) /\
  wr.1[w.1.size + 1 + 1 + 1]? = some (.cells #[v, .slice (some ⟨w.1.size + 1 + 1, 0, none⟩) 1 1] 29 (0, 0)) /\ OwnsRt wr (w.1.size + 4) v ((List.range k).map (Z1c ps N))) (fun c _ => K - (intOf c).toNat)
 case atStart => exact ⟨0, _, ZE _, rfl, HT6.out, by simp, HT1.out, HT2.out, HT3.out, HT4.out, OwnsRt.nil _ _⟩
 case round =>
  clear HT1 HT2 HT3 HT4 HT6
  obtain ⟨wA, hwA⟩ : ∃ x, x = wr := ⟨_, rfl⟩
  subst hwA
  obtain ⟨k, v, hk, rfl, hB, hz, h0, h1, h2, h3, hR⟩ := hrel
  have HB := Z0 hB
  have H0 := Z0 h0
  have H1 := Z0 h1
  have H2 := Z0 h2
  have H3 := Z0 h3
  have HR := Z0 hR
  clear hB h0 h1 h2 h3 hR
  by_cases hlt : k < K
  ·have d1 : decide ((k : Int) <= ra) = true := decide_eq_true (by have := HRA.out; omega)
   have hu8 : IntKind.u8.wrap ((k : Int) + 1) = (k : Int) + 1 := by simp [IntKind.wrap, IntKind.bits, IntKind.signed]; omega
   go_wp2_with fail
   have hn1' := Z01 wA (.cells #[.int .u8 ((k : Int) + 1), .slice none 0 0, .int .i64 bb] 60)
   have hb1' := (Z9 _ wA).alloc (Z1 _) (.cells #[.int .u8 ((k : Int) + 1), .slice none 0 0, .int .i64 bb] 60)
   have HN1 := Z0 hn1'
   have HB1 := Z0 hb1'
   clear hn1' hb1' d1
   go_loopw [10] (fun s wB => ∃ (j : Nat) (v2 : Value), j <= S /\ s = .int .i64 j /\ Below wA.1.size wA wB /\ wA.1.size + 1 <= wB.1.size /\ wB.1[wA.1.size]? = some (.cells #[.int .u8 ((k : Int) + 1), v2, .int .i64 bb] 60 (0, 0)) /\
    Z77 wB (wA.1.size + 1) v2 ((List.range j).map (Z3e ps Z k))) (fun s _ => S - (intOf s).toNat)
   case atStart => exact ⟨0, _, ZE _, rfl, HB1.out, by simp, HN1.out, OwnsX.nil _ _⟩
   case round =>
    clear HN1 HB1
    obtain ⟨wB, hwB⟩ : ∃ x, x = wr := ⟨_, rfl⟩
    subst hwB
    obtain ⟨j, v2, hj, rfl, hB2, hz2, hx, hO2⟩ := hrel
    have HB2 := Z0 hB2
    have HX := Z0 hx
    have HO2 := Z0 hO2
    clear hB2 hx hO2
    by_cases hlj : j < S
    ·have d2 : decide ((j : Int) <= rs) = true := decide_eq_true (by have := HRS.out; omega)
     go_wp2_with fail
     have hn2' := Z01 wB (.cells #[.int .i64 (20 + 30 * (j : Int)), .slice none 0 0] 95)
     have hb2' := (Z9 _ wB).alloc (Z1 _) (.cells #[.int .i64 (20 + 30 * (j : Int)), .slice none 0 0] 95)
     have HN2 := Z0 hn2'
     have HBN := Z0 hb2'
     clear hn2' hb2' d2
     go_loopw [12] (fun z wC => ∃ (i : Nat) (v3 : Value), i <= Z /\ z = .int .i64 i /\ Below wB.1.size wB wC /\ wB.1.size + 1 <= wC.1.size /\ wC.1[wB.1.size]? = some (.cells #[.int .i64 (20 + 30 * (j : Int)), v3] 95 (0, 0)) /\
      wC.ownsRow (wB.1.size + 1) 3 1 v3 i ((List.range i).map (fun q => Value.int .i64 (Z1N ps (17 * k + 5 * j + q) : Nat)))) (fun z _ => Z - (intOf z).toNat)
     case atStart => exact ⟨0, _, ZE _, rfl, HBN.out, by simp, HN2.out, World.ownsRow_nil _ _ _ _⟩
     case round =>
      clear HN2 HBN
      obtain ⟨wC, hwC⟩ : ∃ x, x = wr := ⟨_, rfl⟩
      subst hwC
      obtain ⟨i, v3, hi3, rfl, hB3', hz3, hy, hO3⟩ := hrel
      have HB3 := Z0 hB3'
      have HY := Z0 hy
      have HO3 := Z0 hO3
      obtain ⟨va3, vc3, rfl⟩ := Z0B hO3
      by_cases hli : i < Z
      ·have d3 : decide ((i : Int) < (Z : Int)) = true := decide_eq_true (by omega)
       have hcu := cell_of_row _ _ 1 _ _ _ hy
       have hfz : wC.frozen? ⟨wB.1.size, 1, none⟩ = false := Z02 hy
       have hxl : wB.1.size < wC.1.size := by omega
       have hxo : (Value.slice va3 i vc3).ownBlock ≠ some wB.1.size := fun e => by have := (hO3.lt _ e).1; omega
       have hcall : ∀ W : World, Below wC.1.size wC W -> W.1.size = wC.1.size -> Calls Tryz.prog 24 #[.int .i64 ((17 * k + 5 * j + i : Nat) : Int), .pointer (some ⟨w.1.size, 0, none⟩)] W fun e w' => e = .returned (.int .i64 (Z1N ps (17 * k + 5 * j + i) : Nat)) /\ (Below wC.1.size wC w' /\ w'.1.size = wC.1.size) := fun W hW hWz => by
        have hb := Z00 HB2.out HB2.out.size (Z00 HB3.out HB3.out.size hW)
        have hc : W.cell? ⟨w.1.size, 0, none⟩ = some (.slice va ps.length vc) := (hb.cell (p := ⟨w.1.size, 0, none⟩) (by show w.1.size < wA.1.size; omega)).trans (cell_of_row _ _ 0 _ _ _ H0.out)
        refine (ZcO ps (.slice va ps.length vc) w.1.size (17 * k + 5 * j + i) W (HRD.out.below (Z00 HB.out HB.out.size hb)) hc (by omega) HLL.out).mono ?_
        rintro e w' ⟨rfl, q, rfl⟩
        exact ⟨rfl, ⟨hW.os, hW.tape, hW.output, hW.size, hW.block⟩, hWz⟩
       have HCALL := Z0 hcall
       clear hB3' hy hO3 hcall
       go_upto_region 15 with fail
       refine Z4M (ops' := Z5O) (by kernel_rfl) (Zg2 _ wC _ (PB := w.1.size) (pr := (Z1N ps (17 * k + 5 * j + i) : Nat)) (c := (k : Int)) (s := (j : Int)) (z := (i : Int)) (m1 := 17 * (k : Int)) (m2 := 5 * (j : Int)) (m3 := 17 * (k : Int) + 5 * (j : Int)) (m4 := ((17 * k + 5 * j + i : Nat) : Int)) (X := wB.1.size) (bn := i) (fc := vc3) (fa := va3) (base := wB.1.size + 1) (by simp) (fun _ _ _ _ _ h => h) rfl rfl rfl rfl rfl
        (by simp [IntKind.wrap, IntKind.bits, IntKind.signed]; omega) (by simp [IntKind.wrap, IntKind.bits, IntKind.signed]; omega) (by simp [IntKind.wrap, IntKind.bits, IntKind.signed]; omega) (by simp [IntKind.wrap, IntKind.bits, IntKind.signed]; omega) HCALL.out hcu hfz hxl (by simp [Value.oneCell']) HO3.out (by omega) hxo (by omega) ?_)
       intro a' g9 cap9 W w9 hsz9 hev9 hdf9 hbW hzW hown9 hgrow hat9
       rw [Z4Y (a' := a') [59, 60, 61, 62, 63, 64, 65, 66, 67, 68, 69, 70, 71, 72] hsz9 (fun n hn => hev9 n (by simp at hn; omega)) hdf9]
       generalize Act.eval a' (.tmp 59) = u59
       generalize Act.eval a' (.tmp 60) = u60
       generalize Act.eval a' (.tmp 61) = u61
       generalize Act.eval a' (.tmp 62) = u62
       generalize Act.eval a' (.tmp 63) = u63
       generalize Act.eval a' (.tmp 64) = u64
       generalize Act.eval a' (.tmp 65) = u65
       generalize Act.eval a' (.tmp 66) = u66
       generalize Act.eval a' (.tmp 67) = u67
       generalize Act.eval a' (.tmp 68) = u68
       generalize Act.eval a' (.tmp 69) = u69
       generalize Act.eval a' (.tmp 70) = u70
       generalize Act.eval a' (.tmp 71) = u71
       generalize Act.eval a' (.tmp 72) = u72
       simp only [Z1W, Act.put, List.setIfInBounds_toArray, List.set_cons_succ, List.set_cons_zero]
       go_wp2_with fail
       go_roundw
       case rel =>
        have hbw := Z00 HB3.out HB3.out.size (hbW.alloc (by omega) (.cells #[.int .i64 (Z1N ps (17 * k + 5 * j + i) : Nat)] 3))
        have hy9 : w9.1[wB.1.size]? = some (.cells #[.int .i64 (20 + 30 * (j : Int)), .slice va3 i vc3] 95 (0, 0)) := (hgrow.block _ (by rw [Z6, hzW]; omega) (fun e => hxo e.symm)).trans ((ZB W _ _ (by rw [hzW]; exact hxl)).trans ((hbW.block _ hxl).trans HY.out))
        have hg9 := hown9.lt g9 rfl
        refine ⟨i + 1, .slice (some ⟨g9, 0, none⟩) (i + 1) cap9, by omega, by go_num, ?_, ?_, (Z8k hy9).1, ?_⟩
        ·exact (hbw.grown hgrow (by rw [Z6, hzW]; omega) (fun r e => by have := (HO3.out.lt r e).1; omega)).setCell (p := ⟨wB.1.size, 1, none⟩) (Z1 _) _
        ·have := hgrow.size
         rw [Z6, hzW] at this
         simp [World.setCell]; omega
        ·rw [List.range_succ, ZD]
         exact hown9.kept (Z07 _ _ _) (.inr (by show some g9 ≠ some wB.1.size; intro e; injection e; omega))
       case measure => simp [intOf]; omega
      ·obtain rfl : i = Z := by omega
       have d3 : decide ((i : Int) < (i : Int)) = false := by simp
       obtain ⟨L2, hL2, hr2, ho2⟩ := HO2.out
       have hl2 : L2.length = j := by
        have := congrArg List.length hL2
        simpa using this
       obtain ⟨va2, vc2, rfl⟩ := Z0B ho2
       have hbx := HB3.out.block _ (show wA.1.size < wB.1.size by omega)
       have hx3 := hbx.trans HX.out
       have g1 := cell_of_row _ _ 1 _ _ _ hx3
       have y0 := cell_of_row _ _ 0 _ _ _ hy
       have y1 := cell_of_row _ _ 1 _ _ _ hy
       have hwr3 : wA.1.size < wC.1.size := by omega
       have hx3l : wB.1.size < wC.1.size := by omega
       have ho23 := Z09 ho2 HB3.out
       have HR2 := Z0 hr2
       have HOB := Z0 ho2
       have HO23 := Z0 ho23
       have HL2 := Z0 hL2
       have HLL2 := Z0 hl2
       have HX3 := Z0 hx3
       have hl2s : L2.length <= 3 := by omega
       clear hB3' hy hO3 hbx hx3 hr2 ho2 ho23 hL2 hl2
       go_wp2_with (at_builtin; refine wpList_append_own _ rfl _ _ 58 rfl (wA.1.size + 1) 95 i0 (.agg #[.int .i64 0, .slice none 0 0]) 2 32 Tryz.underlying58 HI.out.1 HI.out.2.1 HI.out.2.2.1 HI.out.2.2.2 rfl (by decide) _ L2.length _ rfl (HO23.out.alloc _) ⟨wC.1.size, 0, none⟩ 1 1 [.int .i64 (20 + 30 * (j : Int)), .slice va3 i vc3] rfl rfl (Z0f _ _ _) (by simp [Value.oneCell']) (by unfold maxLen; omega) (by omega) (by simp; omega) ?_; intro v5 w5 hown5 hgrow5 _; obtain ⟨va5, vc5, rfl⟩ := Z0B hown5; (have hx5 : w5.1[wA.1.size]? = some (.cells #[.int .u8 ((k : Int) + 1), .slice va2 L2.length vc2, .int .i64 bb] 60 (0, 0)) := (hgrow5.block _ (by simp; omega) (fun e => by have := (HOB.out.lt _ e.symm).1; omega)).trans ((ZB _ _ _ hwr3).trans HX3.out)); (have g5 := cell_of_row _ _ 1 _ _ _ hx5); (have f5 : w5.frozen? ⟨wA.1.size, 1, none⟩ = false := Z02 hx5))
       have HX5 := Z0 hx5
       clear hx5
       go_roundw
       case rel =>
        have hbA : Below wA.1.size wA (wC.alloc (.cells #[.int .i64 (20 + 30 * (j : Int)), .slice va3 i vc3] 95)) := (Z00 HB2.out HB2.out.size HB3.out).alloc (by omega) _
        have hb5 : Below wA.1.size wA w5 := hbA.grown hgrow5 (by simp; omega) (fun r e => by have := (HOB.out.lt r e).1; omega)
        have hsz5 := hgrow5.size
        rw [Z6] at hsz5
        have hnS := Z0r HO23.out (T := 3) (by decide)
        have hst : Z77 (wC.alloc (.cells #[.int .i64 (20 + 30 * (j : Int)), .slice va3 i vc3] 95)) (wA.1.size + 1) (.slice va2 L2.length vc2) (L2.map Prod.fst) := OwnsX.below (w := wC) ⟨L2, rfl, fun p hp => (HR2.out p hp).below HB3.out, HO23.out⟩ ((Z9 _ wC).alloc (Z1 _) _)
        obtain ⟨L3, e3, k1, k2⟩ := hst
        refine ⟨j + 1, .slice va5 (L2.length + 1) vc5, by omega, by go_num, hb5.setCell (p := ⟨wA.1.size, 1, none⟩) (Z1 _) _, by simp [World.setCell]; omega, ZhG HX5.out, ?_⟩
        rw [Zcx, <- HL2.out]
        have hfin : Z77 w5 (wA.1.size + 1) (.slice va5 (L2.length + 1) vc5) (L2.map Prod.fst ++ [(Z3e ps i k j, Value.slice va3 i vc3)].map Prod.fst) := by
         refine OwnsX.app (w := wC.alloc (.cells #[.int .i64 (20 + 30 * (j : Int)), .slice va3 i vc3] 95)) (by decide) (fun p hp => ((HR2.out p hp).below HB3.out).below ((Z9 _ wC).alloc (Z1 _) _)) (fun p hp => ?_) (HO23.out.alloc _) hgrow5 hown5
         obtain rfl := ZI.1 hp
         have h := HO3.out
         have e : (List.range i).map (fun q => Value.int .i64 (Z1N ps (17 * k + 5 * j + q) : Nat)) = ((Z3e ps i k j).cents).map (Value.int .i64) := by unfold Z3e; rw [List.map_map]; rfl
         have hl : ((Z3e ps i k j).cents).length = i := by simp [Z3e]
         rw [e] at h
         exact ((RowJ.of_rowI (by rw [hl]; exact h)).mono (by omega)).below ((Z9 _ wC).alloc (Z1 _) _)
        exact hfin.beside (Z07 _ _ _) (Z0L HX5.out (by decide)) (Z0L HX5.out (by decide))
       case measure => simp [intOf]; omega
    ·obtain rfl : j = S := by omega
     have d2 : decide ((j : Int) <= rs) = false := decide_eq_false (by have := HRS.out; omega)
     obtain ⟨L1, hL1, hr1, ho1⟩ := HR.out
     have hl1 : L1.length = k := by
      have := congrArg List.length hL1
      simpa using this
     obtain ⟨va1, vc1, rfl⟩ := Z0B ho1
     have hf2 := HO2.out.form
     rw [Z7, List.length_range] at hf2
     obtain ⟨va2, vc2, rfl⟩ := hf2
     have h3' := (HB2.out.block _ (show w.1.size + 1 + 1 + 1 < wA.1.size by omega)).trans H3.out
     have g0 := cell_of_row _ _ 0 _ _ _ h3'
     have x0 := cell_of_row _ _ 0 _ _ _ HX.out
     have x1 := cell_of_row _ _ 1 _ _ _ HX.out
     have x2 := cell_of_row _ _ 2 _ _ _ HX.out
     have hb3l : w.1.size + 1 + 1 + 1 < wB.1.size := by omega
     have hal : wA.1.size < wB.1.size := by omega
     have HH3 := Z0 h3'
     have HO1 := Z0 (Z09 ho1 HB2.out)
     have HR1 := Z0 hr1
     have HL1 := Z0 hL1
     have hl1s : L1.length <= 3 := by omega
     have HL1K := Z0 hl1
     clear h3' ho1 hr1 hL1 hl1
     go_wp2_with (at_builtin; refine wpList_append_own _ rfl _ _ 26 rfl (w.1.size + 4) 60 j0 (.agg #[.int .u8 0, .slice none 0 0, .int .i64 0]) 3 40 Tryz.underlying26 HJ.out.1 HJ.out.2.1 HJ.out.2.2.1 HJ.out.2.2.2 rfl (by decide) _ L1.length _ rfl (HO1.out.alloc _) ⟨wB.1.size, 0, none⟩ 1 1 [.int .u8 ((k : Int) + 1), .slice va2 j vc2, .int .i64 bb] rfl rfl (Z0f _ _ _) (by simp [Value.oneCell']) (by unfold maxLen; omega) (by omega) (by simp; omega) ?_; intro v5 w5 hown5 hgrow5 _; obtain ⟨va5, vc5, rfl⟩ := Z0B hown5; (have hx5 : w5.1[w.1.size + 1 + 1 + 1]? = some (.cells #[.slice va1 L1.length vc1, .slice (some ⟨w.1.size + 1 + 1, 0, none⟩) 1 1] 29 (0, 0)) := (hgrow5.block _ (by simp; omega) (fun e => by have := (HO1.out.lt _ e.symm).1; omega)).trans ((ZB _ _ _ hb3l).trans HH3.out)); (have g5 := cell_of_row _ _ 0 _ _ _ hx5); (have f5 : w5.frozen? ⟨w.1.size + 1 + 1 + 1, 0, none⟩ = false := Z02 hx5))
     have HX5 := Z0 hx5
     clear hx5
     go_roundw
     case rel =>
      have hbB := Z00 HB.out HB.out.size HB2.out
      have hbA : Below w.1.size w (wB.alloc (.cells #[.int .u8 ((k : Int) + 1), .slice va2 j vc2, .int .i64 bb] 60)) := hbB.alloc (by omega) _
      have hb5 : Below w.1.size w w5 := hbA.grown hgrow5 (by simp; omega) (fun r e => by have := (HO1.out.lt r e).1; omega)
      have hsz5 := hgrow5.size
      rw [Z6] at hsz5
      have hkp : ∀ b, b < w.1.size + 3 -> w5.1[b]? = wA.1[b]? := fun b hb => (hgrow5.block _ (by simp; omega) (fun e => by have := (HO1.out.lt _ e.symm).1; omega)).trans ((ZB _ _ _ (by omega)).trans (HB2.out.block _ (by omega)))
      have hbq : Below wB.1.size wB (wB.alloc (.cells #[.int .u8 ((k : Int) + 1), .slice va2 j vc2, .int .i64 bb] 60)) := (Z9 _ wB).alloc (Z1 _) _
      have hkq : ∀ b u, b < w.1.size + 3 -> (w5.setCell ⟨w.1.size + 1 + 1 + 1, 0, none⟩ u).1[b]? = wA.1[b]? := fun b u hb => (ZA _ _ _ _ (by show b ≠ w.1.size + 1 + 1 + 1; omega)).trans (hkp b hb)
      refine ⟨k + 1, .slice va5 (L1.length + 1) vc5, by omega, by go_num, hb5.setCell (p := ⟨w.1.size + 1 + 1 + 1, 0, none⟩) (by show w.1.size <= w.1.size + 1 + 1 + 1; omega) _, by simp [World.setCell]; omega, (hkq _ _ (by omega)).trans H0.out, (hkq _ _ (by omega)).trans H1.out, (hkq _ _ (by omega)).trans H2.out, (Z8k HX5.out).2, ?_⟩
      rw [ZcJ, <- HL1.out]
      have hst : Z77 (wB.alloc (.cells #[.int .u8 ((k : Int) + 1), .slice va2 j vc2, .int .i64 bb] 60)) (w.1.size + 4) (.slice va2 j vc2) (Z1c ps N k).steps := by
       unfold Z1c
       rw [<- HS.out, <- HZ.out]
       exact (HO2.out.mono (by omega)).below hbq
      have hcell : Z3Q (Z1c ps N k, .slice va2 j vc2) = [.int .u8 ((k : Int) + 1), .slice va2 j vc2, .int .i64 bb] := by
       unfold Z3Q Z1c
       rw [HBB.out]
       rfl
      have hfin := ZcK (v' := .slice va5 (L1.length + 1) vc5) (fun p hp => ((HR1.out p hp).below HB2.out).below hbq) hst (HO1.out.alloc _) hgrow5 (by rw [hcell]; exact hown5)
      exact hfin.beside (Z07 _ _ _) (Z0L HX5.out (by decide)) (Z0L HX5.out (by decide)) (Z0L HX5.out (by decide))
     case measure => simp [intOf]; omega
  ·obtain rfl : k = K := by omega
   have d1 : decide ((k : Int) <= ra) = false := decide_eq_false (by have := HRA.out; omega)
   go_wp2_with fail
   have hp := Z01 wA (.cells ZcQ 96)
   have hpb : Below wA.1.size wA (wA.alloc (.cells ZcQ 96)) := (Z9 _ wA).alloc (Z1 _) _
   have HP := Z0 hp
   have HPB := Z0 hpb
   have hzo : (wA.alloc (.cells ZcQ 96)).ownsRow (w.1.size + 2) 93 3 (.slice (some ⟨w.1.size + 1 + 1, 0, none⟩) 1 1) (Z0u N 0).length ((Z0u N 0).flatMap znC) :=
    ⟨rfl, .inr ⟨w.1.size + 1 + 1, 1, #[.string ⟨#[]⟩, .string ⟨#[]⟩, .int .i64 1], rfl, Z1 _, (hpb.block _ (by omega)).trans H2.out, Z1 _, by decide, rfl, rfl⟩⟩
   have HZO := Z0 hzo
   obtain ⟨q0, hq⟩ := info_parts Tryz.infoZone
   have HQ := Z0 hq
   clear hp hpb hzo d1 hq
   go_loopw [96] (fun i w4 => ∃ (q : Nat) (vz : Value), q <= 9 /\ i = .int .i64 q /\ Below w.1.size w w4 /\ wA.1.size + 1 <= w4.1.size /\ w4.1[wA.1.size]? = some (.cells ZcQ 96 (0, 0)) /\ w4.1[w.1.size + 1]? = some (.cells #[.slice none 0 0, .slice none 0 0] 29 (0, 0)) /\
    w4.1[w.1.size + 1 + 1 + 1]? = some (.cells #[v, vz] 29 (0, 0)) /\ OwnsRt w4 (w.1.size + 4) v ((List.range k).map (Z1c ps N)) /\ w4.ownsRow (w.1.size + 2) 93 3 vz (Z0u N q).length ((Z0u N q).flatMap znC)) (fun i _ => 9 - (intOf i).toNat)
   case atStart => exact ⟨0, _, ZE _, rfl, Z00 HB.out HB.out.size HPB.out, by simp, HP.out, (HPB.out.block _ (by omega)).trans H1.out, (HPB.out.block _ (by omega)).trans H3.out, HR.out.below HPB.out, HZO.out⟩
   case round =>
    clear HP HPB HZO H0 H1 H2 H3 HR HB
    obtain ⟨wB, hwB⟩ : ∃ x, x = wr := ⟨_, rfl⟩
    subst hwB
    obtain ⟨q, vz, hq9, rfl, hB, hzs, hp, h1, h3, hR, hO⟩ := hrel
    have hzl := Zdt N q
    have HB := Z0 hB
    have HP := Z0 hp
    have H1 := Z0 h1
    have H3 := Z0 h3
    have HR := Z0 hR
    have HO := Z0 hO
    by_cases hlq : q < 9
    ·have d4 : decide ((q : Int) < 9) = true := decide_eq_true (by omega)
     obtain ⟨pa, pb⟩ := ZhR hlq
     have c0 := (cell_of_row _ _ (q * 2) _ _ _ hp).trans pa
     have c1 := (cell_of_row _ _ (q * 2 + 1) _ _ _ hp).trans pb
     have hal : wA.1.size < wB.1.size := by omega
     have hbit := HM.out.bit q hlq
     obtain ⟨Pr, hPr⟩ : ∃ x, x = pairsN.getD q (⟨#[]⟩, ⟨#[]⟩) := ⟨_, rfl⟩
     rw [<- hPr] at c0 c1
     have HPR := Z0 hPr
     have HBIT := Z0 hbit
     have hbx := (Z9 _ wB).alloc (Z1 _) (.cells #[.string Pr.1, .string Pr.2] 96)
     have hnx := Z01 wB (.cells #[.string Pr.1, .string Pr.2] 96)
     have HBX := Z0 hbx
     have HNX := Z0 hnx
     clear hPr hB hp h1 h3 hR hO pa pb hbit hbx hnx
     cases hbn : Zh0 N q
     ·have hb' : bits BinOp.and IntKind.u32 (n / 2 ^ (11 + q)) 1 <= 0 := by
       have := HBIT.out
       rw [hbn] at this
       simpa using this
      have HBN := Z0 hbn
      clear hbn
      go_wp2_with fail
      go_roundw
      case rel =>
       refine ⟨q + 1, vz, by omega, by go_num, Z00 HB.out HB.out.size HBX.out, by simp; omega, (HBX.out.block _ hal).trans HP.out, (HBX.out.block _ (by omega)).trans H1.out, (HBX.out.block _ (by omega)).trans H3.out, HR.out.below HBX.out, ?_⟩
       rw [Z7p, HBN.out]
       exact Z09 HO.out HBX.out
      case measure => simp [intOf]; omega
     ·have hb' : 0 < bits BinOp.and IntKind.u32 (n / 2 ^ (11 + q)) 1 := by
       have := HBIT.out
       rw [hbn] at this
       simpa using this
      have HBN := Z0 hbn
      clear hbn
      obtain ⟨vza, vzc, rfl⟩ := Z0B HO.out
      obtain ⟨W0, hW0⟩ : ∃ x, x = wB.alloc (.cells #[.string Pr.1, .string Pr.2] 96) := ⟨_, rfl⟩
      have HW0 := Z0 hW0
      rw [<- hW0] at HBX HNX
      clear hW0
      go_upto_region 22 with fail
      rw [<- HW0.out]
      have hsz0 : W0.1.size = wB.1.size + 1 := by rw [HW0.out]; simp
      have hO0 := Z09 HO.out HBX.out
      have h30 := (HBX.out.block _ (show w.1.size + 1 + 1 + 1 < wB.1.size by omega)).trans H3.out
      have hcu := cell_of_row _ _ 1 _ _ _ h30
      have hfz : W0.frozen? ⟨w.1.size + 1 + 1 + 1, 1, none⟩ = false := Z02 h30
      have hxo : (Value.slice vza (Z0u N q).length vzc).ownBlock ≠ some (w.1.size + 1 + 1 + 1) := fun e => Z0r hO0 (T := 29) (by decide) _ e _ _ h30
      have hzo : (Value.slice vza (Z0u N q).length vzc).ownBlock ≠ some wB.1.size := fun e => Z0r hO0 (T := 96) (by decide) _ e _ _ HNX.out
      obtain ⟨rm, hrm⟩ : ∃ rm : Int, rm = ((q % Z : Nat) : Int) := ⟨_, rfl⟩
      have hrmb : 0 <= rm /\ rm <= 2 := by
       have := Nat.mod_lt q (show 0 < Z by omega)
       omega
      have htm : ((q : Int)).tmod (Z : Int) = rm := by rw [Int.tmod_eq_emod_of_nonneg (Int.natCast_nonneg _), hrm]; rfl
      refine Z4M (ops' := Z5N) (by kernel_rfl) (Zg1 _ W0 _ (Z := wB.1.size) (fr := Pr.1) (tl := Pr.2) (zn := 1 + rm) (zs := (Z : Int)) (i := (q : Int)) (rm := rm) (X := w.1.size + 1 + 1 + 1) (bn := (Z0u N q).length) (fc := vzc) (fa := vza) (base := w.1.size + 2) (by simp) (fun _ _ _ _ _ h => h) rfl rfl rfl rfl
       (by omega) htm (by simp [IntKind.wrap, IntKind.bits, IntKind.signed]; omega) (by simp [IntKind.wrap, IntKind.bits, IntKind.signed]; omega) (cell_of_row _ _ 0 _ _ _ HNX.out) (cell_of_row _ _ 1 _ _ _ HNX.out) (by omega) (by omega) hzo hcu hfz (by omega) (by simp [Value.oneCell']) hO0 (by omega) hxo (by omega) ?_)
      intro a' g9 cap9 W w9 hsz9 hev9 hdf9 hbW hzW hown9 hgrow hat9
      rw [Z4Y (a' := a') [107, 108, 109, 110, 111, 112, 113, 114, 115, 116, 117, 118, 119, 120] hsz9 (fun n hn => hev9 n (by simp at hn; omega)) hdf9]
      generalize Act.eval a' (.tmp 107) = u107
      generalize Act.eval a' (.tmp 108) = u108
      generalize Act.eval a' (.tmp 109) = u109
      generalize Act.eval a' (.tmp 110) = u110
      generalize Act.eval a' (.tmp 111) = u111
      generalize Act.eval a' (.tmp 112) = u112
      generalize Act.eval a' (.tmp 113) = u113
      generalize Act.eval a' (.tmp 114) = u114
      generalize Act.eval a' (.tmp 115) = u115
      generalize Act.eval a' (.tmp 116) = u116
      generalize Act.eval a' (.tmp 117) = u117
      generalize Act.eval a' (.tmp 118) = u118
      generalize Act.eval a' (.tmp 119) = u119
      generalize Act.eval a' (.tmp 120) = u120
      simp only [Z1W, Act.put, List.setIfInBounds_toArray, List.set_cons_succ, List.set_cons_zero]
      go_wp2_with fail
      go_roundw
      case rel =>
       have hbA : Below W0.1.size W0 (W.alloc (.cells #[.string Pr.1, .string Pr.2, .int .i64 (1 + rm)] 93)) := hbW.alloc (by omega) _
       have hb0 := Z00 HB.out HB.out.size (Z00 HBX.out HBX.out.size hbA)
       have hsz5 := hgrow.size
       rw [Z6, hzW] at hsz5
       have hkp : ∀ b o, W0.1[b]? = some o -> (∀ cur fr, o ≠ Obj.cells cur 93 fr) -> w9.1[b]? = some o := fun b o ho hne => by
        have hlt := (Z5.1 ho).1
        exact (hgrow.block _ (by rw [Z6, hzW]; omega) (fun e => by
         obtain ⟨_, hv | ⟨g', cap', cur', hv', _, hh, _⟩⟩ := hO0
         ·rw [hv.1] at e; cases e
         ·rw [hv'] at e
          have e' : b = g' := Option.some.inj e
          subst e'
          rw [ho] at hh
          exact hne _ _ (Option.some.inj hh))).trans ((hbA.block _ hlt).trans ho)
       have h39 := hkp _ _ h30 (fun cur fr e => by injection e with e1 e2; exact absurd e2 (by decide))
       have hp9 := hkp _ _ ((HBX.out.block _ hal).trans HP.out) (fun cur fr e => by injection e with e1 e2; exact absurd e2 (by decide))
       have h19 := hkp _ _ ((HBX.out.block _ (show w.1.size + 1 < wB.1.size by omega)).trans H1.out) (fun cur fr e => by injection e with e1 e2; exact absurd e2 (by decide))
       have hst : ∀ b u, b ≠ w.1.size + 1 + 1 + 1 -> (w9.setCell ⟨w.1.size + 1 + 1 + 1, 1, none⟩ u).1[b]? = w9.1[b]? := fun b u hb => ZA _ _ _ _ hb
       have hO9 := hO0.kept (row := none) (Z0a hbA) (Classical.em _)
       refine ⟨q + 1, .slice (some ⟨g9, 0, none⟩) ((Z0u N q).length + 1) cap9, by omega, by go_num, (hb0.grown hgrow (by rw [Z6, hzW]; omega) (fun r e => by have := (hO0.lt r e).1; omega)).setCell (p := ⟨w.1.size + 1 + 1 + 1, 1, none⟩) (by show w.1.size <= w.1.size + 1 + 1 + 1; omega) _, by simp [World.setCell]; omega, (hst _ _ (by omega)).trans hp9, (hst _ _ (by omega)).trans h19, (Z8k h39).1, ?_, ?_⟩
       ·exact ((HR.out.below (Z00 HBX.out HBX.out.size hbA)).beside hgrow (Z0r hO9 (by decide)) (Z0r hO9 (by decide)) (Z0r hO9 (by decide))).beside (Z07 _ _ _) (Z0L h39 (by decide)) (Z0L h39 (by decide)) (Z0L h39 (by decide))
       ·have e1 : Zjd (Z1p N) q = ⟨Pr.1, Pr.2, 1 + rm⟩ := by
         unfold Zjd
         rw [<- HPR.out, <- HZ.out, hrm]
         rfl
        rw [Z7p, HBN.out, if_pos rfl, e1, ZC, List.flatMap_append]
        exact Z0v hown9 (Z07 _ _ _) (Z0L h39 (by decide))
      case measure => simp [intOf]; omega
    ·obtain rfl : q = 9 := by omega
     have d4 : decide (((9 : Nat) : Int) < 9) = false := by decide
     have hrd := HR.out.rd
     have hzr := Zbq HO.out
     have hfr := HR.out.form
     rw [Z7, List.length_range] at hfr
     obtain ⟨va1, vc1, rfl⟩ := hfr
     obtain ⟨vza, vzc, rfl⟩ := Z0B HO.out
     have k0 := cell_of_row _ _ 0 _ _ _ h3
     have k1 := cell_of_row _ _ 1 _ _ _ h3
     have k2 := cell_of_row _ _ 0 _ _ _ h1
     have k3 := cell_of_row _ _ 1 _ _ _ h1
     have f2 : wB.frozen? ⟨w.1.size + 1, 0, none⟩ = false := Z02 h1
     have f3 : wB.frozen? ⟨w.1.size + 1, 1, none⟩ = false := Z02 h1
     have hl1 : w.1.size + 1 < wB.1.size := by omega
     have hl3 : w.1.size + 1 + 1 + 1 < wB.1.size := by omega
     clear hB hp h1 h3 hR hO hrd hzr
     go_wp2_with fail
     refine bodyPost_ret (results_cell_row rfl _ _ (w.1.size + 1) 29 _ (0, 0) _ rfl (Zjp H1.out) Tryz.underlying29 rfl (by kernel_rfl)) rfl ?_
     have hk1 : ∀ (W : World) (u : Value) (j : Nat), W.grownBy (W.setCell ⟨w.1.size + 1, j, none⟩ u) (some (w.1.size + 1)) := fun W u j => Z07 W ⟨w.1.size + 1, j, none⟩ u
     have h1b := (Z8k (b1 := .slice va1 k vc1) H1.out).2
     have hR2 := (HR.out.beside (hk1 wB (.slice va1 k vc1) 0) (Z0L H1.out (by decide)) (Z0L H1.out (by decide)) (Z0L H1.out (by decide))).beside (hk1 _ (.slice vza (Z0u N 9).length vzc) 1) (Z0L h1b (by decide)) (Z0L h1b (by decide)) (Z0L h1b (by decide))
     have hO2 := Z0v (Z0v HO.out (hk1 wB (.slice va1 k vc1) 0) (Z0L H1.out (by decide))) (hk1 _ (.slice vza (Z0u N 9).length vzc) 1) (Z0L h1b (by decide))
     rw [<- HK.out]
     refine ⟨va1, vc1, vza, vzc, rfl, (HB.out.setCell (p := ⟨w.1.size + 1, 0, none⟩) (by show w.1.size <= w.1.size + 1; omega) _).setCell (p := ⟨w.1.size + 1, 1, none⟩) (by show w.1.size <= w.1.size + 1; omega) _, ⟨?_, Zbq hO2⟩⟩
     have hrd := hR2.rd
     have e : (Z1D N ps).rates = (List.range k).map (Z1c ps N) := by unfold Z1D; rw [HK.out]
     rw [e]
     exact hrd
end Go.Proofs.YtlgajongmkhcnaaGreatDoor
