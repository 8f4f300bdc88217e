/-
  Contract of Right.
-/
import Derived.Test.YtdahgfopighhlaaS7
namespace Go.Proofs.Ytdahgfopighhlaa
open Go.RowKit Go.Maps
set_option linter.unusedVariables false
set_option maxRecDepth 100000
/-- A level lies at an address. -/
def LevAt (w : World) (g o : Nat) (l : Lev) (v : Value) : Prop :=
  w.cell? ⟨g, o, none⟩ = some (.string l.name) ∧ w.cell? ⟨g, o + 1, none⟩ = some (.int .i64 l.pre) ∧ w.cell? ⟨g, o + 2, none⟩ = some v ∧ w.cell? ⟨g, o + 3, none⟩ = some (.int .i64 l.min) ∧ w.cell? ⟨g, o + 4, none⟩ = some (.int .i64 l.cents)
theorem LevAt.below {w w' : World} {X o : Nat} {l : Lev} {v : Value} {B : Nat} (h : LevAt w X o l v) (hb : Below B w w') (hX : X < B) : LevAt w' X o l v :=
  ⟨(hb.cell (p := ⟨X, o, none⟩) hX).trans h.1, (hb.cell (p := ⟨X, o + 1, none⟩) hX).trans h.2.1, (hb.cell (p := ⟨X, o + 2, none⟩) hX).trans h.2.2.1, (hb.cell (p := ⟨X, o + 3, none⟩) hX).trans h.2.2.2.1, (hb.cell (p := ⟨X, o + 4, none⟩) hX).trans h.2.2.2.2⟩
/-- A slice reads as levels. -/
def RdLevs (w : World) (v : Value) (ls : List Lev) : Prop :=
  ∃ a cap, v = .slice a ls.length cap ∧ (0 < ls.length → ∃ g off, a = some ⟨g, off, none⟩ ∧ g < w.heap.size ∧ ∀ i (h : i < ls.length), ∃ sv, RdLabs w sv ls[i].labs ∧ LevAt w g (off + i * 5) ls[i] sv)
theorem RdLevs.below {w w' : World} {v : Value} {ls : List Lev} (h : RdLevs w v ls) (hb : Below w.heap.size w w') : RdLevs w' v ls := by
  obtain ⟨a, cap, hv, hc⟩ := h
  exact ⟨a, cap, hv, fun h0 => by
    obtain ⟨g, off, ha, hg, hcc⟩ := hc h0
    exact ⟨g, off, ha, Nat.lt_of_lt_of_le hg hb.size, fun i h => by
      obtain ⟨sv, h1, h2⟩ := hcc i h
      exact ⟨sv, h1.below hb, h2.below hb hg⟩⟩⟩
def sumTo (ls : List Lev) (k : Nat) : Nat := ((ls.take k).map (fun l => l.labs.length)).sum
theorem sumTo_succ (ls : List Lev) (k : Nat) (h : k < ls.length) : sumTo ls (k + 1) = sumTo ls k + ls[k].labs.length := by
  unfold sumTo; rw [List.take_succ_eq_append_getElem h, List.map_append, List.sum_append]; simp
theorem sumTo_mono (ls : List Lev) {k m : Nat} (h : k ≤ m) : sumTo ls k ≤ sumTo ls m := by
  induction m with
  | zero => obtain rfl : k = 0 := by omega
            exact Nat.le_refl _
  | succ m ih =>
    by_cases e : k = m + 1
    · subst e; exact Nat.le_refl _
    · by_cases hm : m < ls.length
      · rw [sumTo_succ ls m hm]; have := ih (by omega); omega
      · have : sumTo ls (m + 1) = sumTo ls m := by unfold sumTo; rw [List.take_of_length_le (by omega), List.take_of_length_le (by omega)]
        rw [this]; exact ih (by omega)
def okTo (ls : List Lev) (k : Nat) : Prop := sumTo ls k ≤ 200 ∧ (∀ i, i < k → ∀ h : i < ls.length, levelB ls[i] (decide (i + 1 = ls.length)) = true) ∧
  (∀ i, i < k → ∀ h : i < ls.length, ∀ j, j < i → ∀ h' : j < ls.length, ls[j].name ≠ ls[i].name) ∧ (∀ i, i < k → ∀ h : i < ls.length, ∀ j, j + 1 = i → ∀ h' : j < ls.length, ls[i].pre ≤ ls[j].pre)
def rightP (ls : List Lev) : Prop := 1 ≤ ls.length ∧ ls.length ≤ 6 ∧ okTo ls ls.length ∧ ∀ i, (h : i + 1 < ls.length) → nestedB ls[i] ls[i + 1] = true
open Classical in
noncomputable def rightB (ls : List Lev) : Bool := decide (rightP ls)
theorem rightB_iff {ls : List Lev} : rightB ls = true ↔ rightP ls := by unfold rightB; simp
theorem rightB_false {ls : List Lev} (h : ¬ rightP ls) : rightB ls = false := by unfold rightB; simp [h]
theorem okTo_succ {ls : List Lev} {k : Nat} (h : okTo ls k) (hk : k < ls.length) (h1 : sumTo ls (k + 1) ≤ 200) (h2 : levelB ls[k] (decide (k + 1 = ls.length)) = true) (h3 : ∀ j, j < k → ∀ h' : j < ls.length, ls[j].name ≠ ls[k].name) (h4 : ∀ j, j + 1 = k → ∀ h' : j < ls.length, ls[k].pre ≤ ls[j].pre) : okTo ls (k + 1) := by
  obtain ⟨a, b, c, d⟩ := h
  refine ⟨h1, fun i hi h => ?_, fun i hi h => ?_, fun i hi h => ?_⟩
  all_goals by_cases e : i = k
  · subst e; exact h2
  · exact b i (by omega) h
  · subst e; exact h3
  · exact c i (by omega) h
  · subst e; exact h4
  · exact d i (by omega) h
theorem level_facts {l : Lev} {b : Bool} (h : levelB l b = true) : sortedB l.labs ∧ (∀ x ∈ l.labs, (x.pre.size : Int) = l.pre) ∧ 0 ≤ l.pre ∧ l.pre ≤ 10 := by
  obtain ⟨hh, hr⟩ := levelB_iff.1 h
  obtain ⟨_, h1, h2, _, _⟩ := head_parts hh
  cases b
  · simp only [Bool.false_eq_true, if_false] at hr
    obtain ⟨_, hl⟩ := hr
    refine ⟨fun i hi => (hl (i + 1) hi hi).2 i rfl (by omega), fun x hx => ?_, h1, h2⟩
    obtain ⟨i, hi, rfl⟩ := List.mem_iff_getElem.1 hx
    have := (hl i hi hi).1
    unfold labOk at this
    simp at this
    exact this.1.1
  · simp only [if_true] at hr
    have : l.labs = [] := List.length_eq_zero_iff.1 hr.2.2
    rw [this]
    exact ⟨fun i hi => by simp at hi, by simp, h1, h2⟩
/-- What the map of names holds. -/
def NamesOk (ls : List Lev) (k : Nat) (f : ByteArray → Option Bool) : Prop := ∀ u, (f u = none ∧ ∀ j, j < k → ∀ h : j < ls.length, ls[j].name ≠ u) ∨ (f u = some true ∧ ∃ j, j < k ∧ ∃ h : j < ls.length, ls[j].name = u)
theorem NamesOk_step {ls : List Lev} {k : Nat} {f : ByteArray → Option Bool} (h : NamesOk ls k f) (hk : k < ls.length) : NamesOk ls (k + 1) (fun u => if u = ls[k].name then some true else f u) := by
  intro u
  dsimp only
  by_cases e : u = ls[k].name
  · rw [if_pos e]; exact .inr ⟨rfl, k, by omega, hk, e.symm⟩
  · rw [if_neg e]
    rcases h u with ⟨h1, h2⟩ | ⟨h1, j, hj, hj', h2⟩
    · refine .inl ⟨h1, fun j hj h' => ?_⟩
      by_cases e' : j = k
      · subst e'; exact fun h => e h.symm
      · exact h2 j (by omega) h'
    · exact .inr ⟨h1, j, by omega, hj', h2⟩
abbrev OwnsSB := OwnsF 4 Lit.bool
theorem OwnsF.drewN {α : Type} {E : TypeId} {enc : α → Lit} {w : World} {B n : Nat} {f : ByteArray → Option α} (h : OwnsF E enc w B n f) (q : Nat) : OwnsF E enc (w.drewN q) B n f :=
  h.kept (grown_none (below_drewN (Below.refl _ _) q)) (by simp)
theorem wpList_update_F {α : Type} {E : TypeId} {enc : α → Lit} {val : α → Value} {ok : α → Prop} {z0 : α} (L : ElemLaw E α enc val ok z0) (w : World) {ops : Array Oper} {rest : List Oper} {o : Oper} {a : Act} {Q : Exit → Act → World → Prop}
    (hg : o.guard = none) (m x v : Operand) (t : TypeId) (hop : o.op = Op.mapUpdate t m x v) (ht : Try.prog.underlying t = some (.map 9 E)) (B n : Nat) (f : ByteArray → Option α)
    (hm : a.eval m = .map (some B)) (hown : OwnsF E enc w B n f) (hn : n < maxLen) (s : ByteArray) (hs : s.size ≤ maxLen) (hx : a.eval x = .string s) (y : α) (hy : ok y) (hv : a.eval v = val y)
    (hK : ∀ w', OwnsF E enc w' B (n + 1) (fun u => if u = s then some y else f u) → w.grownBy w' (some B) → wpList Try.prog ops Q rest (a.put o.dst undef) w') : wpList Try.prog ops Q (o :: rest) a w := by
  refine wpList_plain hg fun K' hK' => ?_
  obtain ⟨w', hrun, r1, r2⟩ := hown.update L ht hn hs hy
  unfold Oper.wp
  simp [execOp, hop, hm, hx, hv, hrun, Result.andThen]
  exact hK' _ _ (hK w' r1 r2)
end Go.Proofs.Ytdahgfopighhlaa
