/-
  Check digits in plain words: the products and permutations of the system Perm; the check digit of a payload is one, and each error of one digit, or of two neighbours exchanged, is found.
-/
import Derived.Test.YtgdlgfplheeblaaGreatDoorProg
namespace Go.Proofs.YtgdlgfplheeblaaGreatDoor
set_option linter.unusedVariables false
def timesT : List (List Nat) := [[0, 1, 2, 3, 4, 5, 6, 7, 8, 9], [1, 2, 3, 4, 0, 6, 7, 8, 9, 5], [2, 3, 4, 0, 1, 7, 8, 9, 5, 6], [3, 4, 0, 1, 2, 8, 9, 5, 6, 7], [4, 0, 1, 2, 3, 9, 5, 6, 7, 8], [5, 9, 8, 7, 6, 0, 4, 3, 2, 1], [6, 5, 9, 8, 7, 1, 0, 4, 3, 2], [7, 6, 5, 9, 8, 2, 1, 0, 4, 3], [8, 7, 6, 5, 9, 3, 2, 1, 0, 4], [9, 8, 7, 6, 5, 4, 3, 2, 1, 0]]
def turnsT : List (List Nat) := [[0, 1, 2, 3, 4, 5, 6, 7, 8, 9], [1, 5, 7, 6, 2, 8, 3, 0, 9, 4], [5, 8, 0, 3, 7, 9, 6, 1, 4, 2], [8, 9, 1, 6, 0, 4, 3, 5, 2, 7], [9, 4, 5, 3, 1, 2, 6, 8, 7, 0], [4, 2, 8, 6, 5, 7, 3, 9, 0, 1], [2, 7, 9, 3, 8, 0, 6, 4, 1, 5], [7, 0, 4, 6, 9, 1, 3, 2, 5, 8]]
def times (a b : Nat) : Nat := (timesT.getD a []).getD b 0
def turns (p v : Nat) : Nat := (turnsT.getD p []).getD v 0
/-- One step: the product so far, the place, the value. -/
def stepP (p : Nat) (acc v : Nat) : Nat := times acc (turns (p % 8) v)
/-- The product of values from a place on. -/
def prodFrom : Nat → Nat → List Nat → Nat
  | _, acc, [] => acc
  | p, acc, v :: r => prodFrom (p + 1) (stepP p acc v) r
def permB (vs : List Nat) : Bool := decide (prodFrom 0 0 vs = 0)
theorem ten_all {P : Nat → Bool} (h : (List.range 10).all P = true) {a : Nat} (ha : a < 10) : P a = true := List.all_eq_true.1 h a (List.mem_range.2 ha)
theorem times_lt {a b : Nat} (ha : a < 10) (hb : b < 10) : times a b < 10 := by
  have h : (List.range 10).all (fun a => (List.range 10).all fun b => decide (times a b < 10)) = true := by decide +kernel
  exact of_decide_eq_true (ten_all (ten_all h ha) hb)
theorem turns_lt {p v : Nat} (hp : p < 8) (hv : v < 10) : turns p v < 10 := by
  have h : (List.range 8).all (fun p => (List.range 10).all fun v => decide (turns p v < 10)) = true := by decide +kernel
  exact of_decide_eq_true (ten_all (List.all_eq_true.1 h p (List.mem_range.2 hp)) hv)
theorem stepP_lt {p acc v : Nat} (ha : acc < 10) (hv : v < 10) : stepP p acc v < 10 := times_lt ha (turns_lt (Nat.mod_lt _ (by decide)) hv)
theorem prod_lt : ∀ (vs : List Nat) (p acc : Nat), acc < 10 → (∀ v ∈ vs, v < 10) → prodFrom p acc vs < 10
  | [], _, _, h, _ => h
  | v :: r, p, acc, h, hv => prod_lt r _ _ (stepP_lt h (hv v List.mem_cons_self)) (fun x hx => hv x (List.mem_cons_of_mem _ hx))
/-- A step can be undone. -/
theorem step_inj {p acc acc' v : Nat} (ha : acc < 10) (ha' : acc' < 10) (hv : v < 10) (h : stepP p acc v = stepP p acc' v) : acc = acc' := by
  have hc : (List.range 8).all (fun p => (List.range 10).all fun v => (List.range 10).all fun a => (List.range 10).all fun b => !decide (times a (turns p v) = times b (turns p v)) || decide (a = b)) = true := by decide +kernel
  have := ten_all (ten_all (ten_all (List.all_eq_true.1 hc (p % 8) (List.mem_range.2 (Nat.mod_lt _ (by decide)))) hv) ha) ha'
  simp only [Bool.or_eq_true, Bool.not_eq_true', decide_eq_false_iff_not, decide_eq_true_eq] at this
  rcases this with h' | h'
  · exact absurd h h'
  · exact h'
/-- Another value makes another product. -/
theorem step_inj2 {p acc v v' : Nat} (ha : acc < 10) (hv : v < 10) (hv' : v' < 10) (h : stepP p acc v = stepP p acc v') : v = v' := by
  have hc : (List.range 8).all (fun p => (List.range 10).all fun v => (List.range 10).all fun a => (List.range 10).all fun b => !decide (times a (turns p v) = times a (turns p b)) || decide (v = b)) = true := by decide +kernel
  have := ten_all (ten_all (ten_all (List.all_eq_true.1 hc (p % 8) (List.mem_range.2 (Nat.mod_lt _ (by decide)))) hv) ha) hv'
  simp only [Bool.or_eq_true, Bool.not_eq_true', decide_eq_false_iff_not, decide_eq_true_eq] at this
  rcases this with h' | h'
  · exact absurd h h'
  · exact h'
theorem swap_ne {p acc v v' : Nat} (ha : acc < 10) (hv : v < 10) (hv' : v' < 10) (hne : v ≠ v') : stepP (p + 1) (stepP p acc v) v' ≠ stepP (p + 1) (stepP p acc v') v := by
  have hc : (List.range 8).all (fun p => (List.range 10).all fun v => (List.range 10).all fun a => (List.range 10).all fun b => decide (v = b) || !decide (times (times a (turns p v)) (turns ((p + 1) % 8) b) = times (times a (turns p b)) (turns ((p + 1) % 8) v))) = true := by decide +kernel
  have := ten_all (ten_all (ten_all (List.all_eq_true.1 hc (p % 8) (List.mem_range.2 (Nat.mod_lt _ (by decide)))) hv) ha) hv'
  simp only [Bool.or_eq_true, Bool.not_eq_true', decide_eq_false_iff_not, decide_eq_true_eq] at this
  rcases this with h' | h'
  · exact absurd h' hne
  · unfold stepP
    have e : (p % 8 + 1) % 8 = (p + 1) % 8 := by omega
    rw [e] at h'
    exact h'
theorem prod_inj : ∀ (vs : List Nat) (p acc acc' : Nat), acc < 10 → acc' < 10 → (∀ v ∈ vs, v < 10) → prodFrom p acc vs = prodFrom p acc' vs → acc = acc'
  | [], _, _, _, _, _, _, h => h
  | v :: r, p, acc, acc', ha, ha', hv, h => step_inj ha ha' (hv v List.mem_cons_self) (prod_inj r _ _ _ (stepP_lt ha (hv v List.mem_cons_self)) (stepP_lt ha' (hv v List.mem_cons_self)) (fun x hx => hv x (List.mem_cons_of_mem _ hx)) h)
theorem prod_append : ∀ (a b : List Nat) (p acc : Nat), prodFrom p acc (a ++ b) = prodFrom (p + a.length) (prodFrom p acc a) b
  | [], b, p, acc => rfl
  | v :: r, b, p, acc => by
    rw [List.cons_append]
    show prodFrom (p + 1) (stepP p acc v) (r ++ b) = _
    rw [prod_append r b (p + 1) (stepP p acc v), List.length_cons, show p + 1 + r.length = p + (r.length + 1) by omega]
    rfl
/-- One value turned: the product turns. -/
theorem prod_one {a b : List Nat} {v v' : Nat} (ha : ∀ x ∈ a, x < 10) (hb : ∀ x ∈ b, x < 10) (hv : v < 10) (hv' : v' < 10) (h : prodFrom 0 0 (a ++ v :: b) = prodFrom 0 0 (a ++ v' :: b)) : v = v' := by
  rw [prod_append, prod_append] at h
  have h0 := prod_lt a 0 0 (by decide) ha
  exact step_inj2 h0 hv hv' (prod_inj b _ _ _ (stepP_lt h0 hv) (stepP_lt h0 hv') hb h)
theorem prod_swap {a b : List Nat} {v v' : Nat} (ha : ∀ x ∈ a, x < 10) (hb : ∀ x ∈ b, x < 10) (hv : v < 10) (hv' : v' < 10) (hne : v ≠ v') : prodFrom 0 0 (a ++ v :: v' :: b) ≠ prodFrom 0 0 (a ++ v' :: v :: b) := by
  intro h
  rw [prod_append, prod_append] at h
  have h0 := prod_lt a 0 0 (by decide) ha
  exact swap_ne h0 hv hv' hne (prod_inj b _ _ _ (stepP_lt (stepP_lt h0 hv) hv') (stepP_lt (stepP_lt h0 hv') hv) hb h)
theorem step_zero {v : Nat} (hv : v < 10) : stepP 0 0 v = v := by
  have h : (List.range 10).all (fun v => decide (stepP 0 0 v = v)) = true := by decide +kernel
  exact of_decide_eq_true (ten_all h hv)
/-- The step's inverse. -/
def backP (p y v : Nat) : Nat := ((List.range 10).find? (fun a => decide (stepP p a v = y))).getD 0
theorem step_onto {p y v : Nat} (hy : y < 10) (hv : v < 10) : ∃ a, a < 10 ∧ stepP p a v = y := by
  have hc : (List.range 8).all (fun p => (List.range 10).all fun v => (List.range 10).all fun y => (List.range 10).any fun a => decide (times a (turns p v) = y)) = true := by decide +kernel
  have := ten_all (ten_all (List.all_eq_true.1 hc (p % 8) (List.mem_range.2 (Nat.mod_lt _ (by decide)))) hv) hy
  obtain ⟨a, ha, he⟩ := List.any_eq_true.1 this
  exact ⟨a, List.mem_range.1 ha, of_decide_eq_true he⟩
theorem prod_onto : ∀ (vs : List Nat) (p y : Nat), y < 10 → (∀ v ∈ vs, v < 10) → ∃ a, a < 10 ∧ prodFrom p a vs = y
  | [], _, y, hy, _ => ⟨y, hy, rfl⟩
  | v :: r, p, y, hy, hv => by
    obtain ⟨b, hb, he⟩ := prod_onto r (p + 1) y hy (fun x hx => hv x (List.mem_cons_of_mem _ hx))
    obtain ⟨a, ha, he2⟩ := step_onto (p := p) hb (hv v List.mem_cons_self)
    exact ⟨a, ha, by show prodFrom (p + 1) (stepP p a v) r = y; rw [he2]; exact he⟩
/-- There is one check value. -/
theorem check_one {vs : List Nat} (hv : ∀ v ∈ vs, v < 10) : ∃ c, c < 10 ∧ permB (c :: vs) = true ∧ ∀ c', c' < 10 → permB (c' :: vs) = true → c' = c := by
  obtain ⟨a, ha, he⟩ := prod_onto vs 1 0 (by decide) hv
  have hs : ∀ c, c < 10 → (permB (c :: vs) = true ↔ prodFrom 1 c vs = 0) := fun c hc => by
    unfold permB
    rw [decide_eq_true_eq]
    show prodFrom 1 (stepP 0 0 c) vs = 0 ↔ _
    rw [step_zero hc]
  refine ⟨a, ha, (hs a ha).2 he, fun c' hc' h => ?_⟩
  exact prod_inj vs 1 c' a hc' ha hv (((hs c' hc').1 h).trans he.symm)
def checkV (vs : List Nat) : Nat := ((List.range 10).find? (fun c => permB (c :: vs))).getD 0
theorem checkV_ok {vs : List Nat} (hv : ∀ v ∈ vs, v < 10) : checkV vs < 10 ∧ permB (checkV vs :: vs) = true ∧ (∀ c, c < checkV vs → permB (c :: vs) = false) ∧ ∀ c', c' < 10 → permB (c' :: vs) = true → c' = checkV vs := by
  obtain ⟨c, hc, h1, h2⟩ := check_one hv
  have e : checkV vs = c := by
    unfold checkV
    cases hf : (List.range 10).find? (fun c => permB (c :: vs)) with
    | none =>
      rw [List.find?_eq_none] at hf
      exact absurd h1 (hf c (List.mem_range.2 hc))
    | some x =>
      have h3 := List.find?_some hf
      have h4 := List.mem_range.1 (List.mem_of_find?_eq_some hf)
      exact h2 x h4 h3
  rw [e]
  refine ⟨hc, h1, fun c' hc' => ?_, h2⟩
  cases hp : permB (c' :: vs)
  · rfl
  · have := h2 c' (by omega) hp
    omega
end Go.Proofs.YtgdlgfplheeblaaGreatDoor
