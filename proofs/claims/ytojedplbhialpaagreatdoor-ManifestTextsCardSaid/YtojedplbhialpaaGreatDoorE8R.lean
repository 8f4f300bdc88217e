/-
  Region 3 of letterbaglaw27.manifestTexts over an abstract frame (printed by E8R.py): the levels and the manifest are lent, in six orders.
-/
import Derived.Test.YtojedplbhialpaaGreatDoorE7
import Derived.Test.YtojedplbhialpaaGreatDoorGV
import Derived.Test.YtojedplbhialpaaGreatDoorGP
import Derived.BigRegion
import Derived.Deep.RegionLaw
import Derived.Deep.RegionHeld3
import Derived.Deep.DrawnRows
namespace Go.Proofs.YtojedplbhialpaaGreatDoor
open Go.RowKit Go.Sort
set_option linter.unusedVariables false
set_option maxRecDepth 100000
theorem LentLevs.grown {W W' : World} {base C : Nat} {v : Value} {ls : List Lev} (h : LentLevs W base v ls) (hg : W.grownBy W' (some C)) (hC : C < base) : LentLevs W' base v ls := by
  obtain ⟨g, rfl, h1, h2, h3, h4⟩ := h
  have hat : ∀ {o : Nat} {l : Lev} {sv : Value}, LevAt W g o l sv → LevAt W' g o l sv := fun {o l sv} h => by
    obtain ⟨a0, a1, a2, a3, a4⟩ := h
    exact ⟨hg.cell a0 (by simp; omega), hg.cell a1 (by simp; omega), hg.cell a2 (by simp; omega), hg.cell a3 (by simp; omega), hg.cell a4 (by simp; omega)⟩
  exact ⟨g, rfl, h1, Nat.lt_of_lt_of_le h2 hg.size, fun i hi => by
    obtain ⟨sv, a, b⟩ := h3 i hi
    exact ⟨sv, a.grown hg hC, hat b⟩, fun j hj => hat (h4 j hj)⟩
theorem LentLevs.mono {W : World} {base base' : Nat} {v : Value} {ls : List Lev} (h : LentLevs W base v ls) (hb : base' ≤ base) : LentLevs W base' v ls := by
  obtain ⟨g, rfl, h1, h2, h3, h4⟩ := h
  exact ⟨g, rfl, Nat.le_trans hb h1, h2, fun i hi => by
    obtain ⟨sv, a, b⟩ := h3 i hi
    exact ⟨sv, a.mono hb, b⟩, h4⟩
theorem cells12z {w : World} {g : Nat} (h : w.heap[g]? = some manO) :
    (w.cell? ⟨g, 0, none⟩ = some (.slice none 0 0) ∧ w.cell? ⟨g, 1, none⟩ = some (.int .i64 0) ∧ w.cell? ⟨g, 2, none⟩ = some (.int .i64 0) ∧ w.cell? ⟨g, 3, none⟩ = some (.int .i64 0) ∧ w.cell? ⟨g, 4, none⟩ = some (.int .i64 0) ∧ w.cell? ⟨g, 5, none⟩ = some (.int .i64 0)
      ∧ w.cell? ⟨g, 6, none⟩ = some (.int .i64 0) ∧ w.cell? ⟨g, 7, none⟩ = some (.int .i64 0) ∧ w.cell? ⟨g, 8, none⟩ = some (.int .i64 0) ∧ w.cell? ⟨g, 9, none⟩ = some (.int .i64 0) ∧ w.cell? ⟨g, 10, none⟩ = some (.int .i64 0) ∧ w.cell? ⟨g, 11, none⟩ = some (.int .i64 0))
    ∧ w.frozen? ⟨g, 0, none⟩ = false ∧ w.frozen? ⟨g, 1, none⟩ = false ∧ w.frozen? ⟨g, 2, none⟩ = false ∧ w.frozen? ⟨g, 3, none⟩ = false ∧ w.frozen? ⟨g, 4, none⟩ = false ∧ w.frozen? ⟨g, 5, none⟩ = false
      ∧ w.frozen? ⟨g, 6, none⟩ = false ∧ w.frozen? ⟨g, 7, none⟩ = false ∧ w.frozen? ⟨g, 8, none⟩ = false ∧ w.frozen? ⟨g, 9, none⟩ = false ∧ w.frozen? ⟨g, 10, none⟩ = false ∧ w.frozen? ⟨g, 11, none⟩ = false := by
  unfold manO at h
  exact ⟨⟨cell_of_row _ _ 0 _ _ _ h, cell_of_row _ _ 1 _ _ _ h, cell_of_row _ _ 2 _ _ _ h, cell_of_row _ _ 3 _ _ _ h, cell_of_row _ _ 4 _ _ _ h, cell_of_row _ _ 5 _ _ _ h, cell_of_row _ _ 6 _ _ _ h, cell_of_row _ _ 7 _ _ _ h, cell_of_row _ _ 8 _ _ _ h, cell_of_row _ _ 9 _ _ _ h, cell_of_row _ _ 10 _ _ _ h, cell_of_row _ _ 11 _ _ _ h⟩,
    not_frozen h, not_frozen h, not_frozen h, not_frozen h, not_frozen h, not_frozen h, not_frozen h, not_frozen h, not_frozen h, not_frozen h, not_frozen h, not_frozen h⟩
theorem cells12m {W : World} {g : Nat} {X : Man} {v : Value} (h : W.heap[g]? = some (manBox X v)) :
    W.cell? ⟨g, 0, none⟩ = some v ∧ W.cell? ⟨g, 1, none⟩ = some (.int .i64 X.total.level) ∧ W.cell? ⟨g, 2, none⟩ = some (.int .i64 X.total.pieces) ∧ W.cell? ⟨g, 3, none⟩ = some (.int .i64 X.total.barred) ∧ W.cell? ⟨g, 4, none⟩ = some (.int .i64 X.total.grams) ∧ W.cell? ⟨g, 5, none⟩ = some (.int .i64 X.total.base)
      ∧ W.cell? ⟨g, 6, none⟩ = some (.int .i64 X.total.bar) ∧ W.cell? ⟨g, 7, none⟩ = some (.int .i64 X.total.saved) ∧ W.cell? ⟨g, 8, none⟩ = some (.int .i64 X.total.cents) ∧ W.cell? ⟨g, 9, none⟩ = some (.int .i64 X.buns) ∧ W.cell? ⟨g, 10, none⟩ = some (.int .i64 X.tras) ∧ W.cell? ⟨g, 11, none⟩ = some (.int .i64 X.cons) :=
  ⟨cell_of_row _ _ 0 _ _ _ h, cell_of_row _ _ 1 _ _ _ h, cell_of_row _ _ 2 _ _ _ h, cell_of_row _ _ 3 _ _ _ h, cell_of_row _ _ 4 _ _ _ h, cell_of_row _ _ 5 _ _ _ h, cell_of_row _ _ 6 _ _ _ h, cell_of_row _ _ 7 _ _ _ h, cell_of_row _ _ 8 _ _ _ h, cell_of_row _ _ 9 _ _ _ h, cell_of_row _ _ 10 _ _ _ h, cell_of_row _ _ 11 _ _ _ h⟩
theorem RdLevN.below {w W : World} {v : Value} {ls : List Lev} (hr : RdLevN w v ls) (hW : Below w.heap.size w W) : RdLevN W v ls := by
  obtain ⟨a, cap, e, hcc⟩ := hr
  exact ⟨a, cap, e, fun h0 => by
    obtain ⟨g, off, e2, hg, h3⟩ := hcc h0
    exact ⟨g, off, e2, Nat.lt_of_lt_of_le hg hW.size, fun i h => by
      obtain ⟨sv, h4, h5, h6⟩ := h3 i h
      exact ⟨sv, h4.below hW, h5, h6.below hW hg⟩⟩⟩
/-- Levels and a manifest that are lent, the manifest in a box of its own. -/
def LentB (wr : World) (ls : List Lev) (X : Man) (x p : Value) (wx : World) : Prop :=
  ∃ gu gy g, x = .slice (some ⟨gu, 0, none⟩) ls.length (ls.length + 12) ∧ p = .pointer (some ⟨g, 0, none⟩) ∧ wr.heap.size ≤ g ∧ Below wr.heap.size wr wx ∧ wx.heap[g]? = some (manBox X (.slice (some ⟨gy, 0, none⟩) X.lines.length (X.lines.length + 12))) ∧
    LentLevs wx wr.heap.size (.slice (some ⟨gu, 0, none⟩) ls.length (ls.length + 12)) ls ∧ LentLn wx wr.heap.size (.slice (some ⟨gy, 0, none⟩) X.lines.length (X.lines.length + 12)) X.lines
/-- What stands between: a call made in W left W'. -/
theorem lent_step {wr W W' : World} (h : Below wr.heap.size wr W) (h2 : Below W.heap.size W W') : Below wr.heap.size wr W' := below_c h h.size h2
theorem ready_enterE {P : Program} {md : Region.Mode} {ops : Array Oper} {Q : Exit → Act → World → Prop} {S : World → Prop} {fuel : Nat} {listed : Array Bool} {a : Act} {w : World} {i : Nat} {rs : List Nat} (o : Oper) (f : FuncId) (args : Array Value) (p : Value → World → Prop) (ho : ops[i]? = some o) (hg : o.guard = none)
    (hr : (execOp a.eval o).run P w = .ok (.enter f args) w) (hc : Calls P f args w fun e w' => ∃ x, e = .returned x ∧ p x w') (hS : ∀ x w', p x w' → S w') (hn : ∀ x w', p x w' → wpAnyH P md ops Q S fuel (listed.setIfInBounds i true) (a.put o.dst x) w')
    (hs : AllReadyH P md ops Q S fuel listed a w rs) : AllReadyH P md ops Q S fuel listed a w (i :: rs) := AllReadyH.cons ho (fun K' hK => by
  rw [if_pos (by simp [Region.wanted, hg])]
  unfold Oper.wp
  rw [hr]
  refine Calls.mono hc ?_
  rintro e w' ⟨x, rfl, hp⟩
  exact hK.out _ _ (hS x w' hp) (fun _ => hn x w' hp)) hs
theorem setRow_gb (w : World) (g : Nat) (cs : Array Value) : w.grownBy (w.setRow g cs) (some g) :=
  ⟨rfl, rfl, rfl, by simp, fun k hk hne => setRow_other w g k cs (fun e => hne (by rw [e]))⟩
theorem store_man {w : World} {g n c : Nat} {ya : Option Addr} {X : Man} (h : w.heap[g]? = some manO) :
    (storeVar 44 ⟨g, 0, none⟩ (.agg #[.slice ya n c, .int .i64 X.total.level, .int .i64 X.total.pieces, .int .i64 X.total.barred, .int .i64 X.total.grams, .int .i64 X.total.base, .int .i64 X.total.bar, .int .i64 X.total.saved, .int .i64 X.total.cents, .int .i64 X.buns, .int .i64 X.tras, .int .i64 X.cons])).run Tryz.prog w = .ok () (w.setRow g #[.slice ya n c, .int .i64 X.total.level, .int .i64 X.total.pieces, .int .i64 X.total.barred, .int .i64 X.total.grams, .int .i64 X.total.base, .int .i64 X.total.bar, .int .i64 X.total.saved, .int .i64 X.total.cents, .int .i64 X.buns, .int .i64 X.tras, .int .i64 X.cons]) := by
  unfold manO at h
  refine run_storeVar_row w g 44 44 _ _ h (by kernel_rfl) (by rfl) ?_
  simp [Value.oneCell']
theorem store_skip {P : Program} {w w' : World} {t : TypeId} {g : Nat} {v : Value} (h : (storeVar t ⟨g, 0, none⟩ v).run P w = .ok () w') : Sem.run P (do Instr.storeAt t (.pointer (some ⟨g, 0, none⟩)) v; pure Next.skip) w = .ok Next.skip w' := by
  unfold Instr.storeAt
  simp [Instr.sureAddr, h, Result.andThen]
theorem load_run {P : Program} {w : World} {t : TypeId} {g : Nat} {v : Value} (h : (loadVar t ⟨g, 0, none⟩).run P w = .ok v w) : Sem.run P (do let x ← Instr.loadAt t (.pointer (some ⟨g, 0, none⟩)); pure (Next.value x)) w = .ok (Next.value v) w := by
  unfold Instr.loadAt
  simp [Instr.sureAddr, h, Result.andThen]
theorem load_man {w : World} {g : Nat} {X : Man} {y : Value} (h : w.heap[g]? = some (manBox X y)) :
    (loadVar 44 ⟨g, 0, none⟩).run Tryz.prog w = .ok (.agg #[y, .int .i64 X.total.level, .int .i64 X.total.pieces, .int .i64 X.total.barred, .int .i64 X.total.grams, .int .i64 X.total.base, .int .i64 X.total.bar, .int .i64 X.total.saved, .int .i64 X.total.cents, .int .i64 X.buns, .int .i64 X.tras, .int .i64 X.cons]) w :=
  run_loadVar_row _ _ _ _ _ _ _ h Tryz.underlying44 rfl (by kernel_rfl)
theorem lent_row {wr wX : World} {ls : List Lev} {X : Man} {gu gy g : Nat} (hX : Below wr.heap.size wr wX) (hg : wr.heap.size ≤ g) (h0 : wX.heap[g]? = some manO)
    (hl : (∃ B, g < B ∧ wr.heap.size ≤ B ∧ LentLevs wX B (.slice (some ⟨gu, 0, none⟩) ls.length (ls.length + 12)) ls) ∨ ∃ (wA : World) (B : Nat), wr.heap.size ≤ B ∧ LentLevs wA B (.slice (some ⟨gu, 0, none⟩) ls.length (ls.length + 12)) ls ∧ Below wA.heap.size wA wX ∧ wA.heap.size ≤ g)
    (hy : (∃ B, g < B ∧ wr.heap.size ≤ B ∧ LentLn wX B (.slice (some ⟨gy, 0, none⟩) X.lines.length (X.lines.length + 12)) X.lines) ∨ ∃ (wA : World) (B : Nat), wr.heap.size ≤ B ∧ LentLn wA B (.slice (some ⟨gy, 0, none⟩) X.lines.length (X.lines.length + 12)) X.lines ∧ Below wA.heap.size wA wX ∧ wA.heap.size ≤ g) :
    LentB wr ls X (.slice (some ⟨gu, 0, none⟩) ls.length (ls.length + 12)) (.pointer (some ⟨g, 0, none⟩)) (wX.setRow g #[.slice (some ⟨gy, 0, none⟩) X.lines.length (X.lines.length + 12), .int .i64 X.total.level, .int .i64 X.total.pieces, .int .i64 X.total.barred, .int .i64 X.total.grams, .int .i64 X.total.base, .int .i64 X.total.bar, .int .i64 X.total.saved, .int .i64 X.total.cents, .int .i64 X.buns, .int .i64 X.tras, .int .i64 X.cons]) := by
  have hgb := setRow_gb wX g #[.slice (some ⟨gy, 0, none⟩) X.lines.length (X.lines.length + 12), .int .i64 X.total.level, .int .i64 X.total.pieces, .int .i64 X.total.barred, .int .i64 X.total.grams, .int .i64 X.total.base, .int .i64 X.total.bar, .int .i64 X.total.saved, .int .i64 X.total.cents, .int .i64 X.buns, .int .i64 X.tras, .int .i64 X.cons]
  unfold manO at h0
  refine ⟨gu, gy, g, rfl, rfl, hg, below_setRow hX hg _, setRow_heap _ _ _ _ _ _ h0, ?_, ?_⟩
  · rcases hl with ⟨B, h1, h2, h3⟩ | ⟨wA, B, h1, h2, h3, h4⟩
    · exact (h3.grown hgb h1).mono h2
    · exact (h2.below (below_setRow h3 h4 _)).mono h1
  · rcases hy with ⟨B, h1, h2, h3⟩ | ⟨wA, B, h1, h2, h3, h4⟩
    · exact (h3.grown hgb h1).mono h2
    · exact (h2.below (below_setRow h3 h4 _)).mono h1
noncomputable def ops27t3 : Array Oper := (Tryz.f10.body.bind (regionOf 3)).getD #[]
set_option linter.unusedSimpArgs false in
set_option maxHeartbeats 4000000 in
theorem reg27t3 (a : Act) (w : World) (Q : Exit → Act → World → Prop) {g0 : Nat} {ls : List Lev} {X : Man} {v u : Value} (hsz : 57 ≤ a.tmps.size) (hQ : ∀ c (a : Act) (d : Nat) (v : Value) w, Q (.panic c) (a.put (some d) v) w → Q (.panic c) a w)
    (h0 : a.eval (.tmp 0) = v) (h3 : a.eval (.tmp 3) = .pointer (some ⟨g0, 0, none⟩))
    (hbox : ∀ W, Below w.heap.size w W → W.heap[g0]? = some (manBox X u))
    (hL : ∀ W, Below w.heap.size w W → Calls Tryz.prog 24 #[v] W fun e w' => ∃ x, e = .returned x ∧ Below W.heap.size W w' ∧ Below w.heap.size w w' ∧ ∃ gu, x = (.slice (some ⟨gu, 0, none⟩) ls.length (ls.length + 12)) ∧ LentLevs w' W.heap.size (.slice (some ⟨gu, 0, none⟩) ls.length (ls.length + 12)) ls)
    (hM : ∀ W, Below w.heap.size w W → Calls Tryz.prog 32 #[.agg #[u, .int .i64 X.total.level, .int .i64 X.total.pieces, .int .i64 X.total.barred, .int .i64 X.total.grams, .int .i64 X.total.base, .int .i64 X.total.bar, .int .i64 X.total.saved, .int .i64 X.total.cents, .int .i64 X.buns, .int .i64 X.tras, .int .i64 X.cons]] W fun e w' => ∃ x, e = .returned x ∧ Below W.heap.size W w' ∧ Below w.heap.size w w' ∧ ∃ gy, x = .agg #[.slice (some ⟨gy, 0, none⟩) X.lines.length (X.lines.length + 12), .int .i64 X.total.level, .int .i64 X.total.pieces, .int .i64 X.total.barred, .int .i64 X.total.grams, .int .i64 X.total.base, .int .i64 X.total.bar, .int .i64 X.total.saved, .int .i64 X.total.cents, .int .i64 X.buns, .int .i64 X.tras, .int .i64 X.cons] ∧ LentLn w' W.heap.size (.slice (some ⟨gy, 0, none⟩) X.lines.length (X.lines.length + 12)) X.lines)
    (hend : ∀ a' x p WF, a'.tmps.size = a.tmps.size → (∀ n : Nat, n ≠ 5 ∧ n ≠ 6 ∧ (n < 23 ∨ 27 ≤ n) → a'.eval (.tmp n) = a.eval (.tmp n)) → a'.defers = a.defers → a'.eval (.tmp 5) = x → a'.eval (.tmp 6) = p → LentB w ls X x p WF → Q .normal a' WF) :
    (Code.region 3 ops27t3 true).wp Tryz.prog Q a w := by
  have hs5 : 5 < a.tmps.size := (by omega)
  have hs6 : 6 < a.tmps.size := (by omega)
  have hs23 : 23 < a.tmps.size := (by omega)
  have hs24 : 24 < a.tmps.size := (by omega)
  have hs25 : 25 < a.tmps.size := (by omega)
  have hs26 : 26 < a.tmps.size := (by omega)
  conv =>
    pattern ops27t3
    unfold ops27t3
    whnf
  obtain ⟨W0, hW0⟩ : ∃ X, X = w.drew := ⟨_, rfl⟩
  have hb0 : Below w.heap.size w W0 := by rw [hW0]; exact (Below.refl _ w).drew
  refine wp_region_held_drew (S := fun w' => Below w.heap.size w w') (by kernel_rfl) ((Below.refl _ w).drew) (fun hHeld => ?_)
  rw [← hW0]
  clear hW0 hHeld
  refine takeL 0 23 v rfl hQ hb0 ?_ ?_; rotate_left
  refine takeL 2 25 (.agg #[u, .int .i64 X.total.level, .int .i64 X.total.pieces, .int .i64 X.total.barred, .int .i64 X.total.grams, .int .i64 X.total.base, .int .i64 X.total.bar, .int .i64 X.total.saved, .int .i64 X.total.cents, .int .i64 X.buns, .int .i64 X.tras, .int .i64 X.cons]) rfl hQ hb0 ?_ ?_; rotate_left
  · refine wpAnyH_ready (rs := [1, 4]) (by kernel_rfl) (by simp) ?_
    refine ready_enterE ⟨some 24, .call { callee := .value (.func 24), args := #[.tmp 23], argTypes := #[26] }, _, _, _, none⟩ 24 #[v] _ rfl rfl ?_ (hL W0 hb0) (fun x w' h => h.2.1) (fun x wL hL' => ?_) (ready_value ⟨some 6, .alloc 44, _, _, _, none⟩ (.pointer (some ⟨W0.heap.size, 0, none⟩)) (W0.alloc manO) rfl rfl ?_ (hb0.alloc hb0.size _) ?_ AllReadyH.nil)
    · simp (disch := (first | omega | (simp only [size_put]; omega))) only [execOp, eval_put_ne, eval_put_eq, h0, h3]
      try go_simp
      try rfl
    · --L
      obtain ⟨hbL, bL, gu, rfl, hoL⟩ := hL'
      refine wpAnyH_ready (rs := [3, 4]) (by kernel_rfl) (by simp) ?_
      refine ready_enterE ⟨some 26, .call { callee := .value (.func 32), args := #[.tmp 25], argTypes := #[44] }, _, _, _, none⟩ 32 #[.agg #[u, .int .i64 X.total.level, .int .i64 X.total.pieces, .int .i64 X.total.barred, .int .i64 X.total.grams, .int .i64 X.total.base, .int .i64 X.total.bar, .int .i64 X.total.saved, .int .i64 X.total.cents, .int .i64 X.buns, .int .i64 X.tras, .int .i64 X.cons]] _ rfl rfl ?_ (hM wL bL) (fun x w' h => h.2.1) (fun x wM hM' => ?_) (ready_value ⟨some 6, .alloc 44, _, _, _, none⟩ (.pointer (some ⟨wL.heap.size, 0, none⟩)) (wL.alloc manO) rfl rfl ?_ (bL.alloc bL.size _) ?_ AllReadyH.nil)
      · simp (disch := (first | omega | (simp only [size_put]; omega))) only [execOp, eval_put_ne, eval_put_eq, h0, h3]
        try go_simp
        try rfl
      · --LM
        obtain ⟨hbM, bM, gy, rfl, hoM⟩ := hM'
        refine wpAnyH_ready (rs := [4]) (by kernel_rfl) (by simp) ?_
        refine ready_value ⟨some 6, .alloc 44, _, _, _, none⟩ (.pointer (some ⟨wM.heap.size, 0, none⟩)) (wM.alloc manO) rfl rfl ?_ (bM.alloc bM.size _) ?_ AllReadyH.nil
        · simp (disch := (first | omega | (simp only [size_put]; omega))) only [execOp, eval_put_ne, eval_put_eq, h0, h3]
          try go_simp
          try rfl
        · --LMA
          obtain ⟨wA, hwA⟩ : ∃ x, x = wM.alloc manO := ⟨_, rfl⟩
          have bA : Below w.heap.size w wA := by rw [hwA]; exact bM.alloc bM.size _
          have zA : wA.heap[wM.heap.size]? = some manO := by rw [hwA]; exact alloc_new wM _
          have hbA : Below wM.heap.size wM wA := by rw [hwA]; exact (Below.refl _ _).alloc (Nat.le_refl _) _
          have szA : wA.heap.size = wM.heap.size + 1 := by rw [hwA]; simp
          rw [← hwA]
          have hst : (storeVar 44 ⟨wM.heap.size, 0, none⟩ (.agg #[.slice (some ⟨gy, 0, none⟩) X.lines.length (X.lines.length + 12), .int .i64 X.total.level, .int .i64 X.total.pieces, .int .i64 X.total.barred, .int .i64 X.total.grams, .int .i64 X.total.base, .int .i64 X.total.bar, .int .i64 X.total.saved, .int .i64 X.total.cents, .int .i64 X.buns, .int .i64 X.tras, .int .i64 X.cons])).run Tryz.prog wA = .ok () (wA.setRow wM.heap.size #[.slice (some ⟨gy, 0, none⟩) X.lines.length (X.lines.length + 12), .int .i64 X.total.level, .int .i64 X.total.pieces, .int .i64 X.total.barred, .int .i64 X.total.grams, .int .i64 X.total.base, .int .i64 X.total.bar, .int .i64 X.total.saved, .int .i64 X.total.cents, .int .i64 X.buns, .int .i64 X.tras, .int .i64 X.cons]) := store_man zA
          have hsL := hbL.size; have hsM := hbM.size
          have hfin := lent_row (wr := w) (gu := gu) (gy := gy) bA (g := wM.heap.size) (by have := hb0.size; have := bL.size; have := bM.size; omega) zA (.inr ⟨wL, W0.heap.size, (by have := bL.size; have := bM.size; have := bA.size; have := hb0.size; omega), hoL, (lent_step (lent_step (Below.refl _ wL) hbM) hbA), by first | exact Nat.le_refl _ | exact hbM.size | exact hbL.size⟩) (.inr ⟨wM, wL.heap.size, (by have := bL.size; have := bM.size; have := bA.size; have := hb0.size; omega), hoM, (lent_step (Below.refl _ wM) hbA), by first | exact Nat.le_refl _ | exact hbM.size | exact hbL.size⟩)
          refine takeL 5 5 (.slice (some ⟨gu, 0, none⟩) ls.length (ls.length + 12)) rfl hQ bA (by intro w' hS; simp (disch := (first | omega | (simp only [size_put]; omega))) only [execOp, eval_put_ne, eval_put_eq, h0, h3]; first | rfl | go_simp) ?_
          refine wpAnyH_ready (rs := [6]) (by kernel_rfl) (by simp) ?_
          refine ready_skip ⟨none, .store 44 (.tmp 6) (.tmp 26), _, _, _, none⟩ (wA.setRow wM.heap.size #[.slice (some ⟨gy, 0, none⟩) X.lines.length (X.lines.length + 12), .int .i64 X.total.level, .int .i64 X.total.pieces, .int .i64 X.total.barred, .int .i64 X.total.grams, .int .i64 X.total.base, .int .i64 X.total.bar, .int .i64 X.total.saved, .int .i64 X.total.cents, .int .i64 X.buns, .int .i64 X.tras, .int .i64 X.cons]) rfl rfl ?_ (below_setRow bA (by have := hb0.size; have := bL.size; have := bM.size; omega) _) ?_ AllReadyH.nil
          · simp (disch := (first | omega | (simp only [size_put]; omega))) only [execOp, eval_put_ne, eval_put_eq, h0, h3]
            exact store_skip hst
          · refine wpAnyH_done (by kernel_rfl) ?_ _
            refine hend _ _ _ _ ?_ ?_ ?_ ?_ ?_ hfin
            · simp only [size_put]
            · intro n hn
              obtain ⟨n5, n6, hn⟩ := hn
              rcases hn with hn | hn
              all_goals (simp (disch := omega) only [eval_put_none, eval_put_ne])
            · simp only [defers_put]
            · simp (disch := (first | omega | (simp only [size_put]; omega))) only [eval_put_none, eval_put_ne, eval_put_eq]
            · simp (disch := (first | omega | (simp only [size_put]; omega))) only [eval_put_none, eval_put_ne, eval_put_eq]
      · simp (disch := (first | omega | (simp only [size_put]; omega))) only [execOp, eval_put_ne, eval_put_eq, h0, h3]
        try go_simp
        try rfl
      · --LA
        obtain ⟨wA, hwA⟩ : ∃ x, x = wL.alloc manO := ⟨_, rfl⟩
        have bA : Below w.heap.size w wA := by rw [hwA]; exact bL.alloc bL.size _
        have zA : wA.heap[wL.heap.size]? = some manO := by rw [hwA]; exact alloc_new wL _
        have hbA : Below wL.heap.size wL wA := by rw [hwA]; exact (Below.refl _ _).alloc (Nat.le_refl _) _
        have szA : wA.heap.size = wL.heap.size + 1 := by rw [hwA]; simp
        rw [← hwA]
        refine wpAnyH_ready (rs := [3]) (by kernel_rfl) (by simp) ?_
        refine ready_enterE ⟨some 26, .call { callee := .value (.func 32), args := #[.tmp 25], argTypes := #[44] }, _, _, _, none⟩ 32 #[.agg #[u, .int .i64 X.total.level, .int .i64 X.total.pieces, .int .i64 X.total.barred, .int .i64 X.total.grams, .int .i64 X.total.base, .int .i64 X.total.bar, .int .i64 X.total.saved, .int .i64 X.total.cents, .int .i64 X.buns, .int .i64 X.tras, .int .i64 X.cons]] _ rfl rfl ?_ (hM wA bA) (fun x w' h => h.2.1) (fun x wM hM' => ?_) AllReadyH.nil
        · simp (disch := (first | omega | (simp only [size_put]; omega))) only [execOp, eval_put_ne, eval_put_eq, h0, h3]
          try go_simp
          try rfl
        · --LAM
          obtain ⟨hbM, bM, gy, rfl, hoM⟩ := hM'
          have zM := (hbM.block _ (Array.getElem?_eq_some_iff.1 zA).1).trans zA
          have hst : (storeVar 44 ⟨wL.heap.size, 0, none⟩ (.agg #[.slice (some ⟨gy, 0, none⟩) X.lines.length (X.lines.length + 12), .int .i64 X.total.level, .int .i64 X.total.pieces, .int .i64 X.total.barred, .int .i64 X.total.grams, .int .i64 X.total.base, .int .i64 X.total.bar, .int .i64 X.total.saved, .int .i64 X.total.cents, .int .i64 X.buns, .int .i64 X.tras, .int .i64 X.cons])).run Tryz.prog wM = .ok () (wM.setRow wL.heap.size #[.slice (some ⟨gy, 0, none⟩) X.lines.length (X.lines.length + 12), .int .i64 X.total.level, .int .i64 X.total.pieces, .int .i64 X.total.barred, .int .i64 X.total.grams, .int .i64 X.total.base, .int .i64 X.total.bar, .int .i64 X.total.saved, .int .i64 X.total.cents, .int .i64 X.buns, .int .i64 X.tras, .int .i64 X.cons]) := store_man zM
          have hsL := hbL.size; have hsM := hbM.size
          have hfin := lent_row (wr := w) (gu := gu) (gy := gy) bM (g := wL.heap.size) (by have := hb0.size; have := bL.size; have := bM.size; omega) zM (.inr ⟨wL, W0.heap.size, (by have := bL.size; have := bM.size; have := bA.size; have := hb0.size; omega), hoL, (lent_step (lent_step (Below.refl _ wL) hbA) hbM), by first | exact Nat.le_refl _ | exact hbM.size | exact hbL.size⟩) (.inl ⟨wA.heap.size, by omega, (by have := bL.size; have := bM.size; have := bA.size; have := hb0.size; omega), hoM⟩)
          refine takeL 5 5 (.slice (some ⟨gu, 0, none⟩) ls.length (ls.length + 12)) rfl hQ bM (by intro w' hS; simp (disch := (first | omega | (simp only [size_put]; omega))) only [execOp, eval_put_ne, eval_put_eq, h0, h3]; first | rfl | go_simp) ?_
          refine wpAnyH_ready (rs := [6]) (by kernel_rfl) (by simp) ?_
          refine ready_skip ⟨none, .store 44 (.tmp 6) (.tmp 26), _, _, _, none⟩ (wM.setRow wL.heap.size #[.slice (some ⟨gy, 0, none⟩) X.lines.length (X.lines.length + 12), .int .i64 X.total.level, .int .i64 X.total.pieces, .int .i64 X.total.barred, .int .i64 X.total.grams, .int .i64 X.total.base, .int .i64 X.total.bar, .int .i64 X.total.saved, .int .i64 X.total.cents, .int .i64 X.buns, .int .i64 X.tras, .int .i64 X.cons]) rfl rfl ?_ (below_setRow bM (by have := hb0.size; have := bL.size; have := bM.size; omega) _) ?_ AllReadyH.nil
          · simp (disch := (first | omega | (simp only [size_put]; omega))) only [execOp, eval_put_ne, eval_put_eq, h0, h3]
            exact store_skip hst
          · refine wpAnyH_done (by kernel_rfl) ?_ _
            refine hend _ _ _ _ ?_ ?_ ?_ ?_ ?_ hfin
            · simp only [size_put]
            · intro n hn
              obtain ⟨n5, n6, hn⟩ := hn
              rcases hn with hn | hn
              all_goals (simp (disch := omega) only [eval_put_none, eval_put_ne])
            · simp only [defers_put]
            · simp (disch := (first | omega | (simp only [size_put]; omega))) only [eval_put_none, eval_put_ne, eval_put_eq]
            · simp (disch := (first | omega | (simp only [size_put]; omega))) only [eval_put_none, eval_put_ne, eval_put_eq]
    · simp (disch := (first | omega | (simp only [size_put]; omega))) only [execOp, eval_put_ne, eval_put_eq, h0, h3]
      try go_simp
      try rfl
    · --A
      obtain ⟨wA, hwA⟩ : ∃ x, x = W0.alloc manO := ⟨_, rfl⟩
      have bA : Below w.heap.size w wA := by rw [hwA]; exact hb0.alloc hb0.size _
      have zA : wA.heap[W0.heap.size]? = some manO := by rw [hwA]; exact alloc_new W0 _
      have hbA : Below W0.heap.size W0 wA := by rw [hwA]; exact (Below.refl _ _).alloc (Nat.le_refl _) _
      have szA : wA.heap.size = W0.heap.size + 1 := by rw [hwA]; simp
      rw [← hwA]
      refine wpAnyH_ready (rs := [1]) (by kernel_rfl) (by simp) ?_
      refine ready_enterE ⟨some 24, .call { callee := .value (.func 24), args := #[.tmp 23], argTypes := #[26] }, _, _, _, none⟩ 24 #[v] _ rfl rfl ?_ (hL wA bA) (fun x w' h => h.2.1) (fun x wL hL' => ?_) AllReadyH.nil
      · simp (disch := (first | omega | (simp only [size_put]; omega))) only [execOp, eval_put_ne, eval_put_eq, h0, h3]
        try go_simp
        try rfl
      · --AL
        obtain ⟨hbL, bL, gu, rfl, hoL⟩ := hL'
        have zL := (hbL.block _ (Array.getElem?_eq_some_iff.1 zA).1).trans zA
        refine wpAnyH_ready (rs := [3]) (by kernel_rfl) (by simp) ?_
        refine ready_enterE ⟨some 26, .call { callee := .value (.func 32), args := #[.tmp 25], argTypes := #[44] }, _, _, _, none⟩ 32 #[.agg #[u, .int .i64 X.total.level, .int .i64 X.total.pieces, .int .i64 X.total.barred, .int .i64 X.total.grams, .int .i64 X.total.base, .int .i64 X.total.bar, .int .i64 X.total.saved, .int .i64 X.total.cents, .int .i64 X.buns, .int .i64 X.tras, .int .i64 X.cons]] _ rfl rfl ?_ (hM wL bL) (fun x w' h => h.2.1) (fun x wM hM' => ?_) AllReadyH.nil
        · simp (disch := (first | omega | (simp only [size_put]; omega))) only [execOp, eval_put_ne, eval_put_eq, h0, h3]
          try go_simp
          try rfl
        · --ALM
          obtain ⟨hbM, bM, gy, rfl, hoM⟩ := hM'
          have zM := (hbM.block _ (Array.getElem?_eq_some_iff.1 zL).1).trans zL
          have hst : (storeVar 44 ⟨W0.heap.size, 0, none⟩ (.agg #[.slice (some ⟨gy, 0, none⟩) X.lines.length (X.lines.length + 12), .int .i64 X.total.level, .int .i64 X.total.pieces, .int .i64 X.total.barred, .int .i64 X.total.grams, .int .i64 X.total.base, .int .i64 X.total.bar, .int .i64 X.total.saved, .int .i64 X.total.cents, .int .i64 X.buns, .int .i64 X.tras, .int .i64 X.cons])).run Tryz.prog wM = .ok () (wM.setRow W0.heap.size #[.slice (some ⟨gy, 0, none⟩) X.lines.length (X.lines.length + 12), .int .i64 X.total.level, .int .i64 X.total.pieces, .int .i64 X.total.barred, .int .i64 X.total.grams, .int .i64 X.total.base, .int .i64 X.total.bar, .int .i64 X.total.saved, .int .i64 X.total.cents, .int .i64 X.buns, .int .i64 X.tras, .int .i64 X.cons]) := store_man zM
          have hsL := hbL.size; have hsM := hbM.size
          have hfin := lent_row (wr := w) (gu := gu) (gy := gy) bM (g := W0.heap.size) (by have := hb0.size; have := bL.size; have := bM.size; omega) zM (.inl ⟨wA.heap.size, by omega, (by have := bL.size; have := bM.size; have := bA.size; have := hb0.size; omega), (hoL.below hbM)⟩) (.inl ⟨wL.heap.size, by omega, (by have := bL.size; have := bM.size; have := bA.size; have := hb0.size; omega), hoM⟩)
          refine takeL 5 5 (.slice (some ⟨gu, 0, none⟩) ls.length (ls.length + 12)) rfl hQ bM (by intro w' hS; simp (disch := (first | omega | (simp only [size_put]; omega))) only [execOp, eval_put_ne, eval_put_eq, h0, h3]; first | rfl | go_simp) ?_
          refine wpAnyH_ready (rs := [6]) (by kernel_rfl) (by simp) ?_
          refine ready_skip ⟨none, .store 44 (.tmp 6) (.tmp 26), _, _, _, none⟩ (wM.setRow W0.heap.size #[.slice (some ⟨gy, 0, none⟩) X.lines.length (X.lines.length + 12), .int .i64 X.total.level, .int .i64 X.total.pieces, .int .i64 X.total.barred, .int .i64 X.total.grams, .int .i64 X.total.base, .int .i64 X.total.bar, .int .i64 X.total.saved, .int .i64 X.total.cents, .int .i64 X.buns, .int .i64 X.tras, .int .i64 X.cons]) rfl rfl ?_ (below_setRow bM (by have := hb0.size; have := bL.size; have := bM.size; omega) _) ?_ AllReadyH.nil
          · simp (disch := (first | omega | (simp only [size_put]; omega))) only [execOp, eval_put_ne, eval_put_eq, h0, h3]
            exact store_skip hst
          · refine wpAnyH_done (by kernel_rfl) ?_ _
            refine hend _ _ _ _ ?_ ?_ ?_ ?_ ?_ hfin
            · simp only [size_put]
            · intro n hn
              obtain ⟨n5, n6, hn⟩ := hn
              rcases hn with hn | hn
              all_goals (simp (disch := omega) only [eval_put_none, eval_put_ne])
            · simp only [defers_put]
            · simp (disch := (first | omega | (simp only [size_put]; omega))) only [eval_put_none, eval_put_ne, eval_put_eq]
            · simp (disch := (first | omega | (simp only [size_put]; omega))) only [eval_put_none, eval_put_ne, eval_put_eq]
  · intro w' hS; simp (disch := (first | omega | (simp only [size_put]; omega))) only [execOp, eval_put_ne, eval_put_eq, h0, h3]; first | rfl | go_simp
  · intro w' hS
    have hld := load_man (hbox w' hS)
    simp (disch := (first | omega | (simp only [size_put]; omega))) only [execOp, eval_put_ne, eval_put_eq, h0, h3]
    exact load_run hld
end Go.Proofs.YtojedplbhialpaaGreatDoor
