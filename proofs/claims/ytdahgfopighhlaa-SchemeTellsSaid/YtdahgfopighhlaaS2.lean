/-
  How levels and labels lie in memory; contracts of isLevel.
-/
import Derived.Test.YtdahgfopighhlaaS1
namespace Go.Proofs.Ytdahgfopighhlaa
open Go.RowKit
set_option linter.unusedVariables false
set_option maxRecDepth 100000
/-- A slice reads as labels. -/
def RdLabs (w : World) (v : Value) (labs : List Lab) : Prop :=
  ∃ a cap, v = .slice a labs.length cap ∧ (0 < labs.length → ∃ g off, a = some ⟨g, off, none⟩ ∧ g < w.heap.size ∧ ∀ i (h : i < labs.length), w.cell? ⟨g, off + i * 2, none⟩ = some (.string labs[i].pre) ∧ w.cell? ⟨g, off + i * 2 + 1, none⟩ = some (.string labs[i].grp))
theorem RdLabs.below {w w' : World} {v : Value} {ls : List Lab} (h : RdLabs w v ls) (hb : Below w.heap.size w w') : RdLabs w' v ls := by
  obtain ⟨a, cap, hv, hc⟩ := h
  exact ⟨a, cap, hv, fun h0 => by
    obtain ⟨g, off, ha, hg, hcc⟩ := hc h0
    exact ⟨g, off, ha, Nat.lt_of_lt_of_le hg hb.size, fun i h => ⟨(hb.cell (p := ⟨g, off + i * 2, none⟩) hg).trans (hcc i h).1, (hb.cell (p := ⟨g, off + i * 2 + 1, none⟩) hg).trans (hcc i h).2⟩⟩⟩
def lvA (l : Lev) (v : Value) : Value := .agg #[.string l.name, .int .i64 l.pre, v, .int .i64 l.min, .int .i64 l.cents]
/-- Texts of a level are not longer than what the form reads. -/
def LevFits (l : Lev) : Prop := l.name.size ≤ maxLen ∧ l.labs.length ≤ 100000 ∧ ∀ x ∈ l.labs, x.pre.size ≤ maxLen ∧ x.grp.size ≤ maxLen
def labOk (l : Lev) (x : Lab) : Bool := decide ((x.pre.size : Int) = l.pre) && plainB x.pre && nameB x.grp
def sortedB (labs : List Lab) : Prop := ∀ i, (h : i + 1 < labs.length) → ltB labs[i].pre labs[i + 1].pre = true
/-- The labels of a level, as far as the first k. -/
def labsTo (l : Lev) (k : Nat) : Prop := ∀ i, i < k → ∀ h : i < l.labs.length, labOk l l.labs[i] = true ∧ ∀ j, j + 1 = i → ∀ h' : j < l.labs.length, ltB l.labs[j].pre l.labs[i].pre = true
def headB (l : Lev) : Bool := nameB l.name && decide (0 ≤ l.pre ∧ l.pre ≤ 10 ∧ 0 ≤ l.cents ∧ l.cents ≤ 1000000)
def levelP (l : Lev) (last : Bool) : Prop := headB l = true ∧ if last then (l.min = 0 ∧ l.pre = 0 ∧ l.labs.length = 0) else ((1 ≤ l.min ∧ l.min ≤ 2000) ∧ labsTo l l.labs.length)
open Classical in
noncomputable def levelB (l : Lev) (last : Bool) : Bool := decide (levelP l last)
theorem levelB_iff {l : Lev} {last : Bool} : levelB l last = true ↔ levelP l last := by unfold levelB; simp
theorem levelB_false {l : Lev} {last : Bool} (h : ¬ levelP l last) : levelB l last = false := by unfold levelB; simp [h]
theorem headB_false {l : Lev} {last : Bool} (h : headB l = false) : levelB l last = false := levelB_false (fun h' => by rw [h'.1] at h; cases h)
set_option maxHeartbeats 2000000 in
theorem isLevel_head (l : Lev) (v : Value) (last : Bool) (w : World) (hf : LevFits l) (hh : headB l = false) :
    Calls Try.prog 24 #[lvA l v, .bool last] w fun e w' => e = .returned (.bool (levelB l last)) ∧ Below w.heap.size w w' := by
  obtain ⟨hn, hl, hx⟩ := hf
  have HF := Lib.hid (headB_false (last := last) hh)
  have hh' : nameB l.name = false ∨ (nameB l.name = true ∧ (l.pre < 0 ∨ (0 ≤ l.pre ∧ 10 < l.pre) ∨ ((0 ≤ l.pre ∧ l.pre ≤ 10) ∧ l.cents < 0) ∨ ((0 ≤ l.pre ∧ l.pre ≤ 10) ∧ 0 ≤ l.cents ∧ 1000000 < l.cents))) := by
    unfold headB at hh
    cases h : nameB l.name
    · exact .inl rfl
    · rw [h] at hh
      simp at hh
      exact .inr ⟨rfl, by omega⟩
  clear hh hl hx
  obtain ⟨name, pre, labs, min, cents⟩ := l
  dsimp only at hn hh'
  unfold lvA
  dsimp only
  generalize levelB _ _ = r at HF
  clear labs
  rcases hh' with h | ⟨h, h1 | ⟨h0, h1⟩ | ⟨⟨h0, h1⟩, h2⟩ | ⟨⟨h0, h1⟩, h2, h3⟩⟩
  all_goals
    go_enter Try.func24, Try.ntmps24
    go_wp2_with (go_at_call 41; refine (isName_any _ _ hn).mono ?_; rintro e w1 ⟨rfl, hb⟩; obtain ⟨hc1, hf1⟩ := bcell hb)
    go_ret
    exact ⟨ret_bool HF.out.symm, ((Below.refl _ w).alloc (Nat.le_refl _) _).trans (hb.mono (by simp))⟩
end Go.Proofs.Ytdahgfopighhlaa
