/-
  A map[int]int of the call's own; where pieces' numbers stand.
-/
import Derived.Test.YtelklmdlodgdpaaGreatT8
import Derived.Test.YtelklmdlodgdpaaGreatTE
namespace Go.Proofs.YtelklmdlodgdpaaGreat
open Go.RowKit Go.Maps Go.WideMaps
set_option linter.unusedVariables false
set_option maxRecDepth 100000
theorem keyed_int : Keyed Tryz.prog 3 := int_keyed Tryz.underlying3
/-- Block B is a map of c entries that maps as f says. -/
def OwnsII (w : World) (B n : Nat) (f : Int → Option Int) (c : Nat) : Prop :=
  ∃ D : DataW Unit, w.ownsMap Tryz.prog 3 (plainElem Tryz.prog 3) B n D ∧ Maps.size D = c ∧ ∀ x : Int, (f x = none → Maps.has D (.int .i64 x) = false) ∧ ∀ y, f x = some y → Maps.has D (.int .i64 x) = true ∧ ∀ zd, D.atKey (.int .i64 x) zd = .lit (.int .i64 y)
theorem OwnsII.made (w : World) : OwnsII (w.alloc (.map #[] 0)) w.heap.size 0 (fun _ => none) 0 :=
  ⟨.map [], World.ownsMap_made _ _ _ _, rfl, fun s => ⟨fun _ => rfl, fun y h => by cases h⟩⟩
section
variable {w w' : World} {B n c : Nat} {f : Int → Option Int}
theorem OwnsII.kept {row : Option Nat} (h : OwnsII w B n f c) (hg : w.grownBy w' row) (hne : some B ≠ row) : OwnsII w' B n f c := by
  obtain ⟨D, hD, hc, hf⟩ := h
  exact ⟨D, hD.kept hg hne, hc, hf⟩
theorem OwnsII.below (h : OwnsII w B n f c) (hb : Below w.heap.size w w') : OwnsII w' B n f c := h.kept (grown_none hb) (by simp)
theorem OwnsII.lt (h : OwnsII w B n f c) : B < w.heap.size := by obtain ⟨D, hD, _⟩ := h; exact hD.lt
theorem OwnsII.mono {n' : Nat} (h : OwnsII w B n f c) (hn : n ≤ n') : OwnsII w B n' f c := by
  obtain ⟨D, hD, hc, hf⟩ := h
  exact ⟨D, hD.mono hn, hc, hf⟩
theorem OwnsII.look (h : OwnsII w B n f c) {t : TypeId} (ht : Tryz.prog.underlying t = some (.map 3 3)) {x : Int} (hx : (Lit.int .i64 x).wf = true) :
    (Instr.lookup t (.map (some B)) (.int .i64 x) true).run Tryz.prog w = .ok (.tuple #[.int .i64 ((f x).getD 0), .bool (f x).isSome]) w := by
  obtain ⟨D, hD, _, hf⟩ := h
  obtain ⟨v, ps, hrun, hv⟩ := hD.look_ok keyed_int ht (intLaw.zero w) (intLaw.lay 0 (by decide)) (keyOf_int_mk Tryz.underlying3 hx)
  rw [hrun]
  obtain ⟨h1, h2⟩ := hf x
  cases hfs : f x with
  | none =>
    rw [atKey_of_not_has (h1 hfs)] at hv
    rw [intLaw.inv _ _ _ hv, h1 hfs]; rfl
  | some y =>
    rw [(h2 y hfs).2] at hv
    rw [intLaw.inv _ _ _ hv, (h2 y hfs).1]; rfl
theorem OwnsII.update (h : OwnsII w B n f c) {t : TypeId} (ht : Tryz.prog.underlying t = some (.map 3 3)) (hn : n < maxLen) {x y : Int} (hx : (Lit.int .i64 x).wf = true) (hy : (Lit.int .i64 y).wf = true) (hnone : f x = none) :
    ∃ w', (Instr.mapUpdate t (.map (some B)) (.int .i64 x) (.int .i64 y)).run Tryz.prog w = .ok () w' ∧ OwnsII w' B (n + 1) (fun u => if u = x then some y else f u) (c + 1) ∧ w.grownBy w' (some B) := by
  obtain ⟨D, hD, hc, hf⟩ := h
  obtain ⟨w', hrun, h1, h2⟩ := hD.update keyed_int ht hn (keyOf_int_mk Tryz.underlying3 hx) (intLaw.lay y hy)
  have htd := hD.tidy keyed_int
  refine ⟨w', hrun, ⟨_, h1, ?_, fun u => ?_⟩, h2⟩
  · rw [size_put htd, (hf x).1 hnone, if_neg (by decide), hc]
  · have hm := hD.isMap
    have hk : WideAt.IsKeyLit (Lit.int .i64 x) := trivial
    dsimp only
    by_cases e : u = x
    · subst e
      rw [if_pos rfl]
      refine ⟨fun h => (by cases h), fun y' h => ?_⟩
      obtain rfl := Option.some.inj h
      exact ⟨has_put_same hm hk _, fun zd => atKey_put_same hm hk _ zd⟩
    · rw [if_neg e]
      have hne : Lit.int .i64 u ≠ Lit.int .i64 x := fun h => e (by injection h)
      exact ⟨fun h => by rw [← (hf u).1 h]; exact has_put_other hne _, fun y' hy => ⟨by rw [← ((hf u).2 y' hy).1]; exact has_put_other hne _, fun zd => by rw [← ((hf u).2 y' hy).2 zd]; exact atKey_put_other hne _ _⟩⟩
theorem OwnsII.drop (h : OwnsII w B n f (c + 1)) {t : TypeId} (ht : Tryz.prog.underlying t = some (.map 3 3)) {x y : Int} (hx : (Lit.int .i64 x).wf = true) (hsome : f x = some y) (ty : TypeId) :
    ∃ w', (Builtin.delete_ #[t, 3] ty #[.map (some B), .int .i64 x]).run Tryz.prog w = .ok (.tuple #[]) w' ∧ OwnsII w' B n (fun u => if u = x then none else f u) c ∧ w.grownBy w' (some B) := by
  obtain ⟨D, hD, hc, hf⟩ := h
  obtain ⟨w', hrun, h1, h2⟩ := hD.drop keyed_int ht (keyOf_int_mk Tryz.underlying3 hx) ty
  have htd := hD.tidy keyed_int
  refine ⟨w', hrun, ⟨_, h1, ?_, fun u => ?_⟩, h2.grown⟩
  · have := size_del htd (k := Lit.int .i64 x)
    rw [((hf x).2 y hsome).1, if_pos rfl, hc] at this
    omega
  · dsimp only
    by_cases e : u = x
    · subst e
      rw [if_pos rfl]
      exact ⟨fun _ => has_del_same, fun y' h => by cases h⟩
    · rw [if_neg e]
      have hne : Lit.int .i64 u ≠ Lit.int .i64 x := fun h => e (by injection h)
      exact ⟨fun h => by rw [← (hf u).1 h]; exact has_del_other hne, fun y' hy => ⟨by rw [← ((hf u).2 y' hy).1]; exact has_del_other hne, fun zd => by rw [← ((hf u).2 y' hy).2 zd]; exact atKey_del_other hne _⟩⟩
theorem OwnsII.len (h : OwnsII w B n f c) {t : TypeId} (ht : Tryz.prog.underlying t = some (.map 3 3)) (ty : TypeId) : (Builtin.len_ #[t] ty #[.map (some B)]).run Tryz.prog w = .ok (.int .i64 (c : Nat)) w := by
  obtain ⟨D, hD, hc, _⟩ := h
  rw [← hc]
  exact hD.len ht ty
end
theorem wpList_update_II (w : World) {ops : Array Oper} {rest : List Oper} {o : Oper} {a : Act} {Q : Exit → Act → World → Prop}
    (hg : o.guard = none) (m x v : Operand) (t : TypeId) (hop : o.op = Op.mapUpdate t m x v) (ht : Tryz.prog.underlying t = some (.map 3 3)) (B n c : Nat) (f : Int → Option Int)
    (hm : a.eval m = .map (some B)) (hown : OwnsII w B n f c) (hn : n < maxLen) (s y : Int) (hs : (Lit.int .i64 s).wf = true) (hy : (Lit.int .i64 y).wf = true) (hnone : f s = none) (hx : a.eval x = .int .i64 s) (hv : a.eval v = .int .i64 y)
    (hK : ∀ w', OwnsII w' B (n + 1) (fun u => if u = s then some y else f u) (c + 1) → w.grownBy w' (some B) → wpList Tryz.prog ops Q rest (a.put o.dst undef) w') : wpList Tryz.prog ops Q (o :: rest) a w := by
  refine wpList_plain hg fun K' hK' => ?_
  obtain ⟨w', hrun, r1, r2⟩ := hown.update ht hn hs hy hnone
  unfold Oper.wp
  simp [execOp, hop, hm, hx, hv, hrun, Result.andThen]
  exact hK' _ _ (hK w' r1 r2)
theorem wpList_drop_II (w : World) {ops : Array Oper} {rest : List Oper} {o : Oper} {a : Act} {Q : Exit → Act → World → Prop}
    (hg : o.guard = none) (m x : Operand) (t : TypeId) (hop : o.op = Op.call { callee := Callee.builtin Builtin.delete, args := #[m, x], argTypes := #[t, 3] }) (ht : Tryz.prog.underlying t = some (.map 3 3)) (B n c : Nat) (f : Int → Option Int)
    (hm : a.eval m = .map (some B)) (hown : OwnsII w B n f (c + 1)) (s y : Int) (hs : (Lit.int .i64 s).wf = true) (hsome : f s = some y) (hx : a.eval x = .int .i64 s)
    (hK : ∀ w', OwnsII w' B n (fun u => if u = s then none else f u) c → w.grownBy w' (some B) → wpList Tryz.prog ops Q rest (a.put o.dst (.tuple #[])) w') : wpList Tryz.prog ops Q (o :: rest) a w := by
  refine wpList_plain hg fun K' hK' => ?_
  obtain ⟨w', hrun, r1, r2⟩ := hown.drop ht hs hsome o.type
  unfold Oper.wp
  simp [execOp, hop, resolve, invoke, builtin, hm, hx, hrun, Result.andThen]
  exact hK' _ _ (hK w' r1 r2)
theorem wpList_look_II (w : World) {ops : Array Oper} {rest : List Oper} {o : Oper} {a : Act} {Q : Exit → Act → World → Prop}
    (hg : o.guard = none) (m x : Operand) (t : TypeId) (hop : o.op = Op.lookup t m x true) (ht : Tryz.prog.underlying t = some (.map 3 3)) (B n c : Nat) (f : Int → Option Int)
    (hm : a.eval m = .map (some B)) (hown : OwnsII w B n f c) (s : Int) (hs : (Lit.int .i64 s).wf = true) (hx : a.eval x = .int .i64 s) (y : Option Int) (hy : f s = y)
    (hK : wpList Tryz.prog ops Q rest (a.put o.dst (.tuple #[.int .i64 (y.getD 0), .bool y.isSome])) w) : wpList Tryz.prog ops Q (o :: rest) a w := by
  subst hy
  refine wpList_plain hg fun K' hK' => ?_
  have hrun := hown.look ht hs
  unfold Oper.wp
  simp [execOp, hop, hm, hx, hrun, Result.andThen]
  exact hK' _ _ hK
theorem wpList_len_II (w : World) {ops : Array Oper} {rest : List Oper} {o : Oper} {a : Act} {Q : Exit → Act → World → Prop}
    (hg : o.guard = none) (m : Operand) (t : TypeId) (hop : o.op = Op.call { callee := Callee.builtin Builtin.len, args := #[m], argTypes := #[t] }) (ht : Tryz.prog.underlying t = some (.map 3 3)) (B n c : Nat) (f : Int → Option Int)
    (hm : a.eval m = .map (some B)) (hown : OwnsII w B n f c)
    (hK : wpList Tryz.prog ops Q rest (a.put o.dst (.int .i64 (c : Nat))) w) : wpList Tryz.prog ops Q (o :: rest) a w := by
  refine wpList_plain hg fun K' hK' => ?_
  have hrun := hown.len ht o.type
  unfold Oper.wp
  simp [execOp, hop, resolve, invoke, builtin, hm, hrun, Result.andThen]
  exact hK' _ _ hK
open Classical in
/-- Where the piece with a number stands, if that is not among those met. -/
noncomputable def idxP (ps : List Pce) (n : Nat) (pre : List Int) (u : Int) : Option Int :=
  if h : ∃ j : Nat, j < n ∧ (pcAt ps (j : Int)).id = u ∧ u ∉ pre then some ((Classical.choose h : Nat) : Int) else none
theorem idxP_some {ps : List Pce} (hu : IdsUp ps) {n j : Nat} {pre : List Int} (hn : n ≤ ps.length) (hj : j < n) (h : (pcAt ps (j : Int)).id ∉ pre) : idxP ps n pre (pcAt ps (j : Int)).id = some (j : Int) := by
  have hex : ∃ j' : Nat, j' < n ∧ (pcAt ps (j' : Int)).id = (pcAt ps (j : Int)).id ∧ (pcAt ps (j : Int)).id ∉ pre := ⟨j, hj, rfl, h⟩
  unfold idxP
  rw [dif_pos hex]
  obtain ⟨h1, h2, _⟩ := Classical.choose_spec hex
  congr 1
  exact ids_inj hu (by constructor <;> omega) (by constructor <;> omega) h2
theorem idxP_none {ps : List Pce} {n : Nat} {pre : List Int} {u : Int} (h : ∀ j : Nat, j < n → (pcAt ps (j : Int)).id = u → u ∈ pre) : idxP ps n pre u = none := by
  unfold idxP
  rw [dif_neg]
  rintro ⟨j, h1, h2, h3⟩
  exact h3 (h j h1 h2)
theorem idxP_cases {ps : List Pce} (hu : IdsUp ps) {n : Nat} (hn : n ≤ ps.length) (pre : List Int) (u : Int) : idxP ps n pre u = none ∨ ∃ j : Nat, j < n ∧ (pcAt ps (j : Int)).id = u ∧ u ∉ pre ∧ idxP ps n pre u = some (j : Int) := by
  by_cases h : ∃ j : Nat, j < n ∧ (pcAt ps (j : Int)).id = u ∧ u ∉ pre
  · obtain ⟨j, h1, h2, h3⟩ := h
    refine .inr ⟨j, h1, h2, h3, ?_⟩
    subst h2
    exact idxP_some hu hn h1 h3
  · exact .inl (idxP_none (fun j hj he => Classical.byContradiction (fun hc => h ⟨j, hj, he, hc⟩)))
theorem idxP_succ {ps : List Pce} (hu : IdsUp ps) {j : Nat} (hj : j < ps.length) : (fun u => if u = (pcAt ps (j : Int)).id then some (j : Int) else idxP ps j [] u) = idxP ps (j + 1) [] := by
  funext u
  by_cases e : u = (pcAt ps (j : Int)).id
  · rw [if_pos e, e, idxP_some hu (by omega) (Nat.lt_succ_self _) (by simp)]
  · rw [if_neg e]
    rcases idxP_cases hu (show j ≤ ps.length by omega) [] u with h | ⟨i, h1, h2, _, h4⟩
    · rw [h]
      symm
      refine idxP_none (fun i hi he => ?_)
      exfalso
      by_cases hij : i = j
      · subst hij; exact e he.symm
      · have := idxP_some hu (show j ≤ ps.length by omega) (show i < j by omega) (pre := []) (by simp)
        rw [he, h] at this
        cases this
    · rw [h4, ← h2, idxP_some hu (by omega) (by omega) (by simp)]
theorem idxP_drop {ps : List Pce} (hu : IdsUp ps) {n : Nat} (hn : n ≤ ps.length) (pre : List Int) (x : Int) : (fun u => if u = x then none else idxP ps n pre u) = idxP ps n (pre ++ [x]) := by
  funext u
  by_cases e : u = x
  · rw [if_pos e, idxP_none (fun j _ _ => by rw [e]; simp)]
  · rw [if_neg e]
    rcases idxP_cases hu hn pre u with h | ⟨i, h1, h2, h3, h4⟩
    · rw [h]
      symm
      refine idxP_none (fun i hi he => ?_)
      refine List.mem_append_left _ (Classical.byContradiction (fun hc => ?_))
      subst he
      rw [idxP_some hu hn hi hc] at h
      cases h
    · rw [h4]
      subst h2
      rw [idxP_some hu hn h1 (by
        intro hc
        rcases List.mem_append.1 hc with hc | hc
        · exact h3 hc
        · exact e (List.mem_singleton.1 hc))]
end Go.Proofs.YtelklmdlodgdpaaGreat
