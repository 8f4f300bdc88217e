/-
  What the walk of letterbaglaw23.SchemeOrder wants: a set of numbers of the call's own, Pick, the turned codes.
-/
import Derived.Test.YtdahgfopighhlaaV3
import Derived.Test.YtdahgfopighhlaaV7
namespace Go.Proofs.Ytdahgfopighhlaa
open Go.RowKit Go.Maps Go.WideMaps
set_option linter.unusedVariables false
set_option maxRecDepth 100000
theorem keyed_int : Keyed Try.prog 3 := int_keyed Try.underlying3
/-- Block B is a set of numbers (a map[int]bool). -/
def OwnsI (w : World) (B n : Nat) (f : Int → Bool) : Prop :=
  ∃ D : DataW Unit, w.ownsMap Try.prog 3 (plainElem Try.prog 4) B n D ∧ ∀ x : Int, (f x = false → Maps.has D (.int .i64 x) = false) ∧ (f x = true → Maps.has D (.int .i64 x) = true ∧ ∀ zd, D.atKey (.int .i64 x) zd = .lit (.bool true))
theorem OwnsI.made (w : World) : OwnsI (w.alloc (.map #[] 0)) w.heap.size 0 (fun _ => false) :=
  ⟨.map [], World.ownsMap_made _ _ _ _, fun s => ⟨fun _ => rfl, fun h => by cases h⟩⟩
theorem OwnsI.kept {w w' : World} {B n : Nat} {f : Int → Bool} {row : Option Nat} (h : OwnsI w B n f) (hg : w.grownBy w' row) (hne : some B ≠ row) : OwnsI w' B n f := by
  obtain ⟨D, hD, hf⟩ := h
  exact ⟨D, hD.kept hg hne, hf⟩
theorem OwnsI.lt {w : World} {B n : Nat} {f : Int → Bool} (h : OwnsI w B n f) : B < w.heap.size := by obtain ⟨D, hD, _⟩ := h; exact hD.lt
theorem OwnsI.look {w : World} {B n : Nat} {f : Int → Bool} (h : OwnsI w B n f) {t : TypeId} (ht : Try.prog.underlying t = some (.map 3 4)) {x : Int} (hx : (Lit.int .i64 x).wf = true) :
    (Instr.lookup t (.map (some B)) (.int .i64 x) false).run Try.prog w = .ok (.bool (f x)) w := by
  obtain ⟨D, hD, hf⟩ := h
  obtain ⟨v, ps, hrun, hv⟩ := hD.lookup keyed_int ht (boolLaw.zero w) (boolLaw.lay false trivial) (keyOf_int_mk Try.underlying3 hx)
  rw [hrun]
  obtain ⟨h1, h2⟩ := hf x
  cases hfs : f x with
  | false =>
    rw [atKey_of_not_has (h1 hfs)] at hv
    rw [boolLaw.inv _ _ _ hv]
  | true =>
    rw [(h2 hfs).2] at hv
    rw [boolLaw.inv _ _ _ hv]
theorem OwnsI.update {w : World} {B n : Nat} {f : Int → Bool} (h : OwnsI w B n f) {t : TypeId} (ht : Try.prog.underlying t = some (.map 3 4)) (hn : n < maxLen) {x : Int} (hx : (Lit.int .i64 x).wf = true) :
    ∃ w', (Instr.mapUpdate t (.map (some B)) (.int .i64 x) (.bool true)).run Try.prog w = .ok () w' ∧ OwnsI w' B (n + 1) (fun u => decide (u = x) || f u) ∧ w.grownBy w' (some B) := by
  obtain ⟨D, hD, hf⟩ := h
  obtain ⟨w', hrun, h1, h2⟩ := hD.update keyed_int ht hn (keyOf_int_mk Try.underlying3 hx) (boolLaw.lay true trivial)
  refine ⟨w', hrun, ⟨_, h1, fun u => ?_⟩, h2⟩
  have hm := hD.isMap
  have hk : WideAt.IsKeyLit (Lit.int .i64 x) := trivial
  dsimp only
  by_cases e : u = x
  · subst e
    rw [decide_eq_true rfl]
    exact ⟨fun h => (by cases h), fun _ => ⟨has_put_same hm hk _, fun zd => atKey_put_same hm hk _ zd⟩⟩
  · rw [decide_eq_false e, Bool.false_or]
    have hne : Lit.int .i64 u ≠ Lit.int .i64 x := fun h => e (by injection h)
    exact ⟨fun h => by rw [← (hf u).1 h]; exact has_put_other hne _, fun hy => ⟨by rw [← ((hf u).2 hy).1]; exact has_put_other hne _, fun zd => by rw [← ((hf u).2 hy).2 zd]; exact atKey_put_other hne _ _⟩⟩
theorem wpList_update_I (w : World) {ops : Array Oper} {rest : List Oper} {o : Oper} {a : Act} {Q : Exit → Act → World → Prop}
    (hg : o.guard = none) (m x v : Operand) (t : TypeId) (hop : o.op = Op.mapUpdate t m x v) (ht : Try.prog.underlying t = some (.map 3 4)) (B n : Nat) (f : Int → Bool)
    (hm : a.eval m = .map (some B)) (hown : OwnsI w B n f) (hn : n < maxLen) (s : Int) (hs : (Lit.int .i64 s).wf = true) (hx : a.eval x = .int .i64 s) (hv : a.eval v = .bool true)
    (hK : ∀ w', OwnsI w' B (n + 1) (fun u => decide (u = s) || f u) → w.grownBy w' (some B) → wpList Try.prog ops Q rest (a.put o.dst undef) w') : wpList Try.prog ops Q (o :: rest) a w := by
  refine wpList_plain hg fun K' hK' => ?_
  obtain ⟨w', hrun, r1, r2⟩ := hown.update ht hn hs
  unfold Oper.wp
  simp [execOp, hop, hm, hx, hv, hrun, Result.andThen]
  exact hK' _ _ (hK w' r1 r2)
theorem pick_any (x n : Int) (w : World) (hn : 1 ≤ n) (hn2 : n ≤ 9223372036854775807) (hx : 0 ≤ x) (hx2 : x ≤ 9223372036854775807) :
    Calls Try.prog 16 #[.int .i64 x, .int .i64 n] w fun e w' => e = .returned (.int .i64 (x % n)) ∧ w = w' := by
  have h1 := Int.emod_nonneg x (show n ≠ 0 by omega)
  have h3 : x.tmod n = x % n := Int.tmod_eq_emod_of_nonneg hx
  have d1 : decide (x % n < 0) = false := decide_eq_false (by omega)
  have d2 : decide (n < 1) = false := decide_eq_false (by omega)
  go_enter Try.func16, Try.ntmps16
  go_wp2
  go_ret
  exact ⟨rfl, rfl⟩
theorem pick_zero (x : Int) (w : World) :
    Calls Try.prog 16 #[.int .i64 x, .int .i64 0] w fun e w' => e = .returned (.int .i64 0) ∧ w = w' := by
  go_enter Try.func16, Try.ntmps16
  go_wp2
  go_ret
  exact ⟨rfl, rfl⟩
theorem codes_lies {w : World} {base : Nat} {v : Value} {cs : List ByteArray} (h : OwnsT w base v cs) (hl : 0 < cs.length) : ∃ g cap, v = .slice (some ⟨g, 0, none⟩) cs.length cap ∧ cs.length ≤ cap ∧ cap ≤ maxLen ∧ g < w.heap.size ∧ ∀ i (hi : i < cs.length), w.cell? ⟨g, i, none⟩ = some (.string cs[i]) := by
  have h' := h
  obtain ⟨h1, h2 | ⟨g, cap, cur, hv, hb, hg, hnc, hcm, _⟩⟩ := h'
  · omega
  · subst hv
    exact ⟨g, cap, rfl, hnc, hcm, (Array.getElem?_eq_some_iff.1 hg).1, fun i hi => owns_cell h hi⟩
theorem addr_add (g o j : Nat) : (⟨g, o, none⟩ : Addr).add j = ⟨g, o + j, none⟩ := by unfold Addr.add; split <;> simp_all
/-- The codes, turned: the two appends. -/
theorem turned_facts {W W1 : World} {g cap k : Nat} {cs : List ByteArray} (hb : Below W.heap.size W W1) (h1 : W1.heap[W.heap.size]? = some (.cells #[] 9 (0, 0))) (hg : g < W.heap.size) (hk : k < cs.length) (hc : ∀ i (hi : i < cs.length), W.cell? ⟨g, i, none⟩ = some (.string cs[i])) (hl : cs.length ≤ 2000) :
    ∃ v1 w1 a2 c2 w2, (Builtin.append_ #[27, 27] 27 #[.slice (some ⟨W.heap.size, 0, none⟩) 0 0, .slice (some ⟨g, k, none⟩) (cs.length - k) (cap - k)]).run Try.prog W1 = .ok v1 w1 ∧
      (Builtin.append_ #[27, 27] 27 #[v1, .slice (some ⟨g, 0, none⟩) k cap]).run Try.prog w1 = .ok (.slice a2 cs.length c2) w2 ∧ Below W.heap.size W w2 ∧ ReadsT w2 (.slice a2 cs.length c2) (turnL k cs) := by
  obtain ⟨i0, hi⟩ := info_parts Try.infoS
  have hlt := (Array.getElem?_eq_some_iff.1 h1).1
  have ho : W1.ownsRow W.heap.size 9 1 (.slice (some ⟨W.heap.size, 0, none⟩) 0 0) 0 [] := ⟨rfl, .inr ⟨_, 0, #[], rfl, Nat.le_refl _, h1, Nat.le_refl _, Nat.zero_le _, rfl, rfl⟩⟩
  have hcW : ∀ i (hi : i < cs.length), W1.cell? ⟨g, i, none⟩ = some (.string cs[i]) := fun i hi => (hb.cell (p := ⟨g, i, none⟩) hg).trans (hc i hi)
  obtain ⟨v1, w1, hr1, ho1, hg1, _⟩ := run_append_own (P := Try.prog) W1 W.heap.size 27 27 9 i0 (.string ⟨#[]⟩) 1 16 Try.underlying27 hi.1 hi.2.1 hi.2.2.1 hi.2.2.2 rfl (by decide) _ 0 [] ho ⟨g, k, none⟩ (cs.length - k) (cap - k) ((cs.drop k).map Value.string) (by simp) (fun j u hu => by
    rw [addr_add]
    rw [List.getElem?_map, List.getElem?_drop] at hu
    cases he : cs[k + j]? with
    | none => rw [he] at hu; cases hu
    | some c =>
      rw [he] at hu
      obtain ⟨hlt', hce⟩ := List.getElem?_eq_some_iff.1 he
      rw [hcW _ hlt', hce]
      exact hu) (by intro u hu; obtain ⟨c, _, rfl⟩ := List.mem_map.1 hu; rfl) (by unfold maxLen; omega) (by omega) (by omega)
  have hb1 : Below W.heap.size W w1 := hb.grown hg1 hb.size (fun r e => (ho.lt r e).1)
  have hcw : ∀ i (hi : i < cs.length), w1.cell? ⟨g, i, none⟩ = some (.string cs[i]) := fun i hi => (hb1.cell (p := ⟨g, i, none⟩) hg).trans (hc i hi)
  obtain ⟨v2, w2, hr2, ho2, hg2, _⟩ := run_append_own (P := Try.prog) w1 W.heap.size 27 27 9 i0 (.string ⟨#[]⟩) 1 16 Try.underlying27 hi.1 hi.2.1 hi.2.2.1 hi.2.2.2 rfl (by decide) v1 _ _ ho1 ⟨g, 0, none⟩ k cap ((cs.take k).map Value.string) (by simp; omega) (fun j u hu => by
    rw [addr_add, Nat.zero_add]
    rw [List.getElem?_map] at hu
    cases he : (cs.take k)[j]? with
    | none => rw [he] at hu; cases hu
    | some c =>
      rw [he] at hu
      obtain ⟨hlt', hce⟩ := List.getElem?_eq_some_iff.1 he
      rw [List.length_take] at hlt'
      rw [List.getElem_take] at hce
      rw [hcw j (by omega), hce]
      exact hu) (by intro u hu; obtain ⟨c, _, rfl⟩ := List.mem_map.1 hu; rfl) (by unfold maxLen; omega) (by omega) (by have := hb1.size; omega)
  have hb2 : Below W.heap.size W w2 := hb1.grown hg2 hb1.size (fun r e => (ho1.lt r e).1)
  have e1 : 0 + (cs.length - k) + k = cs.length := by omega
  have e2 : [] ++ (cs.drop k).map Value.string ++ (cs.take k).map Value.string = (turnL k cs).map Value.string := by unfold turnL; simp
  rw [e1, e2] at ho2
  have ho3 : OwnsT w2 W.heap.size v2 (turnL k cs) := by
    show w2.ownsRow _ _ _ _ (turnL k cs).length _
    rw [turnL_len]
    exact ho2
  obtain ⟨a2, c2, rfl⟩ := OwnsT.form ho3
  have hrt := ReadsT.of_row ho3
  rw [turnL_len] at hr2 hrt
  exact ⟨v1, w1, a2, c2, w2, hr1, hr2, hb2, hrt⟩
end Go.Proofs.Ytdahgfopighhlaa
