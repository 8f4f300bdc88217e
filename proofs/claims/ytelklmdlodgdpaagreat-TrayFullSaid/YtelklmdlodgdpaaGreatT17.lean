/-
  A map of numbers to numbers read plainly; the grams of the pieces by their numbers.
-/
import Derived.Test.YtelklmdlodgdpaaGreatGP
import Derived.BigQuiet
namespace Go.Proofs.YtelklmdlodgdpaaGreat
open Go.RowKit Go.Maps Go.WideMaps
set_option linter.unusedVariables false
set_option maxRecDepth 100000
theorem OwnsII.look0 {w : World} {B n c : Nat} {f : Int → Option Int} (h : OwnsII w B n f c) {t : TypeId} (ht : Tryz.prog.underlying t = some (.map 3 3)) {x : Int} (hx : (Lit.int .i64 x).wf = true) :
    (Instr.lookup t (.map (some B)) (.int .i64 x) false).run Tryz.prog w = .ok (.int .i64 ((f x).getD 0)) w := by
  obtain ⟨D, hD, _, hf⟩ := h
  obtain ⟨v, ps, hrun, hv⟩ := hD.lookup keyed_int ht (intLaw.zero w) (intLaw.lay 0 (by decide)) (keyOf_int_mk Tryz.underlying3 hx)
  rw [hrun]
  obtain ⟨h1, h2⟩ := hf x
  cases hfs : f x with
  | none =>
    rw [atKey_of_not_has (h1 hfs)] at hv
    rw [intLaw.inv _ _ _ hv]; rfl
  | some y =>
    rw [(h2 y hfs).2] at hv
    rw [intLaw.inv _ _ _ hv]; rfl
theorem wpList_look0_II (w : World) {ops : Array Oper} {rest : List Oper} {o : Oper} {a : Act} {Q : Exit → Act → World → Prop}
    (hg : o.guard = none) (m x : Operand) (t : TypeId) (hop : o.op = Op.lookup t m x false) (ht : Tryz.prog.underlying t = some (.map 3 3)) (B n c : Nat) (f : Int → Option Int)
    (hm : a.eval m = .map (some B)) (hown : OwnsII w B n f c) (s : Int) (hs : (Lit.int .i64 s).wf = true) (hx : a.eval x = .int .i64 s) (y : Int) (hy : (f s).getD 0 = y)
    (hK : wpList Tryz.prog ops Q rest (a.put o.dst (.int .i64 y)) w) : wpList Tryz.prog ops Q (o :: rest) a w := by
  subst hy
  refine wpList_plain hg fun K' hK' => ?_
  have hrun := hown.look0 ht hs
  unfold Oper.wp
  simp [execOp, hop, hm, hx, hrun, Result.andThen]
  exact hK' _ _ hK
theorem grams_posN {ps : List Pce} (hg : ∀ p ∈ ps, 0 ≤ p.grams) : ∀ I : List Int, (∀ i ∈ I, i.toNat < ps.length) → 0 ≤ gramsOf ps I
  | [], _ => by unfold gramsOf; simp
  | i :: r, h => by
    have ih := grams_posN hg r (fun j hj => h j (List.mem_cons_of_mem _ hj))
    have h1 := hg _ (pcAt_memN (h i List.mem_cons_self))
    unfold gramsOf at ih ⊢
    rw [List.map_cons, List.sum_cons]
    omega
/-- The grams of the first pieces, by their numbers. -/
def gmTo (ps : List Pce) : Nat → Int → Option Int
  | 0 => fun _ => none
  | i + 1 => fun u => if u = (pcAt ps (i : Int)).id then some (pcAt ps (i : Int)).grams else gmTo ps i u
theorem ids_ne {ps : List Pce} (hu : IdsUp ps) {i j : Nat} (hi : i < ps.length) (hj : j < ps.length) (h : i ≠ j) : (pcAt ps (i : Int)).id ≠ (pcAt ps (j : Int)).id := fun e => h (by
  have := ids_inj hu (i := (i : Int)) (j := (j : Int)) (by constructor <;> omega) (by constructor <;> omega) e
  omega)
theorem gm_none {ps : List Pce} (hu : IdsUp ps) {q : Nat} (hq : q < ps.length) : ∀ i, i ≤ q → gmTo ps i (pcAt ps (q : Int)).id = none
  | 0, _ => rfl
  | i + 1, h => by
    show (if _ then _ else _) = none
    rw [if_neg (ids_ne hu hq (by omega) (by omega))]
    exact gm_none hu hq i (by omega)
theorem gm_some {ps : List Pce} (hu : IdsUp ps) {j : Nat} : ∀ i, i ≤ ps.length → j < i → gmTo ps i (pcAt ps (j : Int)).id = some (pcAt ps (j : Int)).grams
  | 0, _, h => by omega
  | i + 1, hi, h => by
    show (if _ then _ else _) = _
    by_cases e : j = i
    · subst e; rw [if_pos rfl]
    · rw [if_neg (ids_ne hu (by omega) (by omega) e)]
      exact gm_some hu i (by omega) (by omega)
theorem RdPces.atN {w : World} {a : Option Addr} {m cap : Nat} {ps : List Pce} (h : RdPces w (.slice a m cap) ps) (h0 : 0 < ps.length) :
    ∃ g off, a = some ⟨g, off, none⟩ ∧ g < w.heap.size ∧ ∀ j : Nat, j < ps.length → PceAt w g (off + j * 5) (pcAt ps (j : Int)) := by
  obtain ⟨a', c', hv, hc⟩ := h
  injection hv with h1 h2 h3
  subst h1
  obtain ⟨g, off, ha, hg, hcc⟩ := hc h0
  exact ⟨g, off, ha, hg, fun j hj => by rw [pcAt_nat hj]; exact hcc j hj⟩
theorem quiet_look_II {o : Oper} {a : Act} {K : Act → Prop} {wd : World} (m x : Operand) (t : TypeId) (hop : o.op = Op.lookup t m x false) (ht : Tryz.prog.underlying t = some (.map 3 3)) (B n c : Nat) (f : Int → Option Int)
    (hm : a.eval m = .map (some B)) (hown : OwnsII wd B n f c) (s : Int) (hs : (Lit.int .i64 s).wf = true) (hx : a.eval x = .int .i64 s) (y : Int) (hy : (f s).getD 0 = y) (hK : K (a.put o.dst (.int .i64 y))) : o.quiet Tryz.prog a (fun w' => ∃ n, w' = wd.drewN n) K := by
  subst hy
  refine ⟨_, fun w ⟨q, e⟩ => ?_, hK⟩
  subst e
  have hrun := (hown.below (below_drewN (Below.refl _ _) q)).look0 ht hs
  unfold Oper.quietAt
  simp [execOp, hop, hm, hx, hrun, Result.andThen, Oper.quietUpon]
theorem run_makeMap0 (w : World) : (Instr.makeMap 43 none).run Tryz.prog w = .ok (.map (some w.heap.size)) (w.alloc (.map #[] 0)) := by
  simp only [Instr.makeMap]
  rfl
end Go.Proofs.YtelklmdlodgdpaaGreat
