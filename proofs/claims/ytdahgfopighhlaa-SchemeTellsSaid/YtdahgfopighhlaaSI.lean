/-
  Right schemes by a computation.
-/
import Derived.Test.YtdahgfopighhlaaSG
namespace Go.Proofs.Ytdahgfopighhlaa
open Go.RowKit
set_option linter.unusedVariables false
def sortedC : List Lab → Bool
  | x :: y :: r => ltB x.pre y.pre && sortedC (y :: r)
  | _ => true
theorem sortedC_iff : ∀ l : List Lab, sortedC l = true ↔ sortedB l
  | [] => ⟨fun _ i h => by simp at h, fun _ => rfl⟩
  | [x] => ⟨fun _ i h => by simp at h, fun _ => rfl⟩
  | x :: y :: r => by
    unfold sortedC
    rw [Bool.and_eq_true, sortedC_iff (y :: r)]
    constructor
    · rintro ⟨h1, h2⟩ i hi
      cases i with
      | zero => exact h1
      | succ i => exact h2 i (by simpa using hi)
    · intro h
      exact ⟨h 0 (by simp), fun i hi => h (i + 1) (by simpa using hi)⟩
def levelC (l : Lev) (last : Bool) : Bool := headB l && if last then (decide (l.min = 0) && decide (l.pre = 0) && decide (l.labs.length = 0)) else (decide (1 ≤ l.min) && decide (l.min ≤ 2000) && l.labs.all (labOk l) && sortedC l.labs)
theorem labsTo_iff (l : Lev) : labsTo l l.labs.length ↔ (l.labs.all (labOk l) = true ∧ sortedC l.labs = true) := by
  rw [sortedC_iff, List.all_eq_true]
  constructor
  · intro h
    exact ⟨fun x hx => by obtain ⟨i, hi, rfl⟩ := List.mem_iff_getElem.1 hx; exact (h i hi hi).1, fun i hi => (h (i + 1) hi hi).2 i rfl (by omega)⟩
  · rintro ⟨h1, h2⟩ i hi h
    exact ⟨h1 _ (List.getElem_mem h), fun j hj h' => by subst hj; exact h2 j h⟩
theorem levelC_iff {l : Lev} {last : Bool} : levelC l last = true ↔ levelP l last := by
  unfold levelC levelP
  rw [Bool.and_eq_true]
  cases last
  · simp only [Bool.false_eq_true, if_false, Bool.and_eq_true, decide_eq_true_eq]
    rw [labsTo_iff]
    constructor
    · rintro ⟨a, ⟨⟨b, c⟩, d⟩, e⟩; exact ⟨a, ⟨b, c⟩, d, e⟩
    · rintro ⟨a, ⟨b, c⟩, d, e⟩; exact ⟨a, ⟨⟨b, c⟩, d⟩, e⟩
  · simp only [if_true, Bool.and_eq_true, decide_eq_true_eq]
    constructor
    · rintro ⟨a, ⟨b, c⟩, d⟩; exact ⟨a, b, c, d⟩
    · rintro ⟨a, b, c, d⟩; exact ⟨a, ⟨b, c⟩, d⟩
theorem levelB_eq (l : Lev) (last : Bool) : levelB l last = levelC l last := by rw [Bool.eq_iff_iff, levelB_iff, levelC_iff]
def nestC (l next : Lev) : Bool := (l.labs.flatMap (pairsL l)).all (fun x => (l.labs.flatMap (pairsL l)).all (fun y => !decide (x.1 = y.1) || decide (grpOf next x.2 = grpOf next y.2)))
theorem nestC_iff {l next : Lev} : nestC l next = true ↔ nestedP l next := by
  unfold nestC nestedP
  simp only [List.all_eq_true, Bool.or_eq_true, Bool.not_eq_true', decide_eq_false_iff_not, decide_eq_true_eq]
  constructor
  · intro h x hx y hy e
    rcases h x hx y hy with h' | h'
    · exact absurd e h'
    · exact h'
  · intro h x hx y hy
    by_cases e : x.1 = y.1
    · exact .inr (h x hx y hy e)
    · exact .inl e
theorem nestedB_eq (l next : Lev) : nestedB l next = nestC l next := by rw [Bool.eq_iff_iff, nestedB_iff, nestC_iff]
def levelsC : List Lev → Bool
  | [] => true
  | [l] => levelC l true
  | l :: m :: r => levelC l false && levelsC (m :: r)
def namesC : List Lev → Bool
  | [] => true
  | l :: r => r.all (fun m => !decide (l.name = m.name)) && namesC r
def chainC : List Lev → Bool
  | l :: m :: r => decide (m.pre ≤ l.pre) && nestC l m && chainC (m :: r)
  | _ => true
def rightC (ls : List Lev) : Bool := decide (1 ≤ ls.length) && decide (ls.length ≤ 6) && decide ((ls.map (fun l => l.labs.length)).sum ≤ 200) && levelsC ls && namesC ls && chainC ls
theorem levelsC_iff : ∀ ls : List Lev, levelsC ls = true ↔ ∀ i (h : i < ls.length), levelB ls[i] (decide (i + 1 = ls.length)) = true
  | [] => ⟨fun _ i h => by simp at h, fun _ => rfl⟩
  | [l] => by
    unfold levelsC
    rw [← levelB_eq]
    exact ⟨fun h i hi => by obtain rfl : i = 0 := by simpa using hi
                            exact h, fun h => h 0 (by simp)⟩
  | l :: m :: r => by
    unfold levelsC
    rw [Bool.and_eq_true, levelsC_iff (m :: r), ← levelB_eq]
    constructor
    · rintro ⟨h1, h2⟩ i hi
      cases i with
      | zero => simpa using h1
      | succ i =>
        have := h2 i (by simpa using hi)
        simpa using this
    · intro h
      refine ⟨?_, fun i hi => ?_⟩
      · have := h 0 (by simp)
        simpa using this
      · have := h (i + 1) (by simpa using hi)
        simpa using this
theorem namesC_iff : ∀ ls : List Lev, namesC ls = true ↔ ∀ i (h : i < ls.length) j, (hj : j < i) → (ls[j]'(by omega)).name ≠ ls[i].name
  | [] => ⟨fun _ i h => by simp at h, fun _ => rfl⟩
  | l :: r => by
    unfold namesC
    rw [Bool.and_eq_true, namesC_iff r, List.all_eq_true]
    constructor
    · rintro ⟨h1, h2⟩ i hi j hj
      cases i with
      | zero => omega
      | succ i =>
        cases j with
        | zero => simpa using h1 _ (List.getElem_mem (show i < r.length by simpa using hi))
        | succ j => exact h2 i (by simpa using hi) j (by omega)
    · intro h
      refine ⟨fun m hm => ?_, fun i hi j hj => h (i + 1) (by simpa using hi) (j + 1) (by omega)⟩
      obtain ⟨i, hi, rfl⟩ := List.mem_iff_getElem.1 hm
      have := h (i + 1) (by simpa using hi) 0 (by omega)
      simpa using this
theorem chainC_iff : ∀ ls : List Lev, chainC ls = true ↔ ∀ i (h : i + 1 < ls.length), ls[i + 1].pre ≤ ls[i].pre ∧ nestedB ls[i] ls[i + 1] = true
  | [] => ⟨fun _ i h => by simp at h, fun _ => rfl⟩
  | [l] => ⟨fun _ i h => by simp at h, fun _ => rfl⟩
  | l :: m :: r => by
    unfold chainC
    rw [Bool.and_eq_true, Bool.and_eq_true, chainC_iff (m :: r), ← nestedB_eq, decide_eq_true_eq]
    constructor
    · rintro ⟨h1, h2⟩ i hi
      cases i with
      | zero => exact h1
      | succ i => exact h2 i (by simpa using hi)
    · intro h
      exact ⟨h 0 (by simp), fun i hi => h (i + 1) (by simpa using hi)⟩
theorem rightB_eq (ls : List Lev) : rightB ls = rightC ls := by
  rw [Bool.eq_iff_iff, rightB_iff]
  unfold rightC
  simp only [Bool.and_eq_true, decide_eq_true_eq]
  rw [levelsC_iff, namesC_iff, chainC_iff]
  unfold rightP okTo
  have es : sumTo ls ls.length = (ls.map (fun l => l.labs.length)).sum := by unfold sumTo; rw [List.take_of_length_le (Nat.le_refl _)]
  rw [es]
  constructor
  · rintro ⟨a, b, ⟨c, d, e, f⟩, g⟩
    exact ⟨⟨⟨⟨⟨a, b⟩, c⟩, fun i h => d i h h⟩, fun i h j hj => e i h h j hj (by omega)⟩, fun i h => ⟨f (i + 1) h h i rfl (by omega), g i h⟩⟩
  · rintro ⟨⟨⟨⟨⟨a, b⟩, c⟩, d⟩, e⟩, f⟩
    exact ⟨a, b, ⟨c, fun i _ h => d i h, fun i _ h j hj h' => e i h j hj, fun i _ h j hj h' => by subst hj; exact (f j h).1⟩, fun i h => (f i h).2⟩
end Go.Proofs.Ytdahgfopighhlaa
