import Derived.Test.YtojedplbhialpaaGreatDoorGF
import Derived.Test.YtojedplbhialpaaGreatDoorGC
import Derived.BigQuiet
import Derived.StillTailTactics
import Derived.Test.YtojedplbhialpaaGreatDoorGE
import Derived.Test.YtojedplbhialpaaGreatDoorShelf
import Derived.Laws.CopyOwn
import Derived.Laws.OwnMore
import Derived.Deep.OwnRows
import Derived.RangeFuncNested
import Derived.RangeFuncBound
import Derived.RangeFuncCalls
import Derived.RangeFuncLeaves
import Derived.Shelf.Abstract
import Derived.Shelf.RegionOpen
import Derived.WalkKit
import Derived.OwnWalkIn
import Derived.TacticsInMore
import Derived.LoopNIn
import Derived.LoopIn
import Derived.Deep.DeepCutAuto
import Derived.Laws.EntriesVeiled
import Derived.Deep.RegionHeld3
import Derived.Sort.OwnSortedInts
import Derived.Laws.AppendOwnNone
/-! W9 -/
namespace Go.Proofs.YtojedplbhialpaaGreatDoor
open Go.RowKit Go.Sort Go.Shelf Go.IntWalk
attribute [local go_sem] Oper.semAt_some
set_option linter.unusedVariables false
set_option maxRecDepth 100000
theorem gb_setCell (a : World) (p : Addr) (u : Value) : a.grownBy (a.setCell p u) (some p.block) := ⟨rfl, rfl, rfl, by simp [World.setCell], fun k hk hne => Below.heap_setCell _ _ _ _ (fun e => hne (by rw [e]))⟩
end Go.Proofs.YtojedplbhialpaaGreatDoor

/-! WR -/
namespace Go.Proofs.YtojedplbhialpaaGreatDoor
open Go.RowKit Go.Sort Go.Shelf
set_option linter.unusedVariables false
set_option maxRecDepth 100000
/-! ### Plain -/
/-! ### In memory -/
theorem mail_codes {m : Mai} (h : mailB m = true) : (codesM m.ps).length ≤ 2000 ∧ ∀ c ∈ codesM m.ps, codeB c = true := by
  unfold mailB at h
  simp only [Bool.and_eq_true, decide_eq_true_eq] at h
  have hp : ∀ (l : List Pce) (b : Int), pcsB b l = true → ∀ p ∈ l, codeB p.code = true := by
    intro l
    induction l with
    | nil => intro b _ p hp; cases hp
    | cons q r ih =>
      intro b hb p hp
      unfold pcsB at hb
      rw [Bool.and_eq_true] at hb
      rcases List.mem_cons.1 hp with rfl | hp
      · have h1 := hb.1
        unfold pcB at h1
        simp only [Bool.and_eq_true] at h1
        exact h1.2.1
      · exact ih _ hb.2 p hp
  refine ⟨by unfold codesM; rw [List.length_map]; exact h.2.2.1, fun c hc => ?_⟩
  unfold codesM at hc
  obtain ⟨p, hp', rfl⟩ := List.mem_map.1 hc
  exact hp _ _ h.2.2.2 p hp'
end Go.Proofs.YtojedplbhialpaaGreatDoor
