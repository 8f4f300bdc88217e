/-
  The chapter's example, packed.
-/
import Derived.Test.YtelklmdlodgdpaaGreatT9
namespace Go.Proofs.YtelklmdlodgdpaaGreat
open Go.RowKit
set_option linter.unusedVariables false
set_option maxRecDepth 100000
def endsB (Gs : List Grp) (j : Nat) : Bool := if h : j + 1 < Gs.length then decide (Gs[j + 1].lvl ≠ (Gs[j]'(by omega)).lvl) else true
theorem ends_iffB (Gs : List Grp) (j : Nat) : endsL Gs j ↔ endsB Gs j = true := by
  unfold endsL endsB
  by_cases h : j + 1 < Gs.length
  · rw [dif_pos h, decide_eq_true_eq]; exact ⟨fun H => H h, fun H _ => H⟩
  · rw [dif_neg h]; exact ⟨fun _ => rfl, fun _ h' => absurd h' h⟩
def pkStepD (k : Pck) (ps : List Pce) (zs : List Int) (Gs : List Grp) (st : PkS) (j : Nat) : PkS :=
  if hj : j < Gs.length then
    let bs := st.buns ++ bunsOf k ps zs Gs[j]
    let ts := st.tras ++ (shareR st.buns.length bs.length k.bundles.toNat).map (fun l => ⟨Gs[j].lvl, Gs[j].name, l⟩)
    if endsB Gs j = true then ⟨bs, ts, st.cons ++ (shareR st.beg ts.length k.trays.toNat).map (fun l => ⟨Gs[j].lvl, l⟩), ts.length⟩ else ⟨bs, ts, st.cons, st.beg⟩
  else st
theorem pkStep_eq (k : Pck) (ps : List Pce) (zs : List Int) (Gs : List Grp) : pkStep k ps zs Gs = pkStepD k ps zs Gs := by
  funext st j
  unfold pkStep pkStepD
  by_cases hj : j < Gs.length
  · rw [dif_pos hj, dif_pos hj]
    dsimp only
    by_cases h : endsL Gs j
    · rw [if_pos h, if_pos ((ends_iffB Gs j).1 h)]
    · rw [if_neg h, if_neg (fun h' => h ((ends_iffB Gs j).2 h'))]
  · rw [dif_neg hj, dif_neg hj]
def pkToD (k : Pck) (ps : List Pce) (zs : List Int) (Gs : List Grp) (n : Nat) : PkS := (List.range n).foldl (pkStepD k ps zs Gs) ⟨[], [], [], 0⟩
theorem pkTo_eq (k : Pck) (ps : List Pce) (zs : List Int) (Gs : List Grp) (n : Nat) : pkTo k ps zs Gs n = pkToD k ps zs Gs n := by unfold pkTo pkToD; rw [pkStep_eq]
def c100 : ByteArray := ⟨#[49, 48, 48]⟩
def c200 : ByteArray := ⟨#[50, 48, 48]⟩
def exS : List Lev := [⟨⟨#[51]⟩, 3, [], 1, 0⟩, ⟨⟨#[97, 108, 108]⟩, 0, [], 0, 0⟩]
def exMl : Mai := ⟨1, 1, ⟨#[49, 48, 48, 48, 48]⟩, [⟨1, 0, c100, 10, false⟩, ⟨2, 0, c100, 10, false⟩, ⟨3, 0, c200, 10, false⟩, ⟨4, 0, c100, 10, false⟩]⟩
def exPl : List Int := [0, 0, 1, 0]
def exK (g : Int) : Pck := ⟨2, g, 1, 2⟩
def exG : List Grp := [⟨0, c100, 2, [0, 1, 3]⟩, ⟨0, c200, 2, [2]⟩, ⟨1, ⟨#[]⟩, -1, [0, 1, 2, 3]⟩]
theorem exG_eq : gAll exS (codesM exMl.ps) exS.length = exG := by kernel_rfl
theorem exS_right : rightB exS = true := by rw [rightB_eq]; kernel_rfl
theorem exM_mail : mailB exMl = true := by kernel_rfl
theorem ex_has : HasPlan exS exMl := by
  refine ⟨exS_right, exM_mail, ⟨by decide, by decide, by decide, by decide⟩, by decide, fun l hl c hc => ?_⟩
  have hl' : l.pre ≤ 3 := by
    have h : l = exS[0] ∨ l = exS[1] := by simpa [exS] using hl
    rcases h with rfl | rfl <;> decide
  have hc' : c.size = 3 := by
    have h : c = c100 ∨ c = c100 ∨ c = c200 ∨ c = c100 := by simpa [exMl, codesM] using hc
    rcases h with rfl | rfl | rfl | rfl <;> rfl
  omega
theorem ex_nums : numsB exS.length exPl = true := by kernel_rfl
theorem ex_valid : validR exS exMl exPl = (true, 0) := by
  rw [validR_eq ex_has.right ex_has.mail ex_has.pre rfl ex_nums, exG_eq]
  have : grpsOkB exS exPl exG = true := by kernel_rfl
  rw [this]
theorem ex_all {k : Pck} (h : pckB k = true) : allR exS exMl exPl k = 0 := by
  unfold allR
  rw [ex_valid, if_pos rfl, if_pos ⟨rfl, h⟩]
def exLod : Lod := ⟨[⟨0, c100, [1, 2], 20⟩, ⟨0, c100, [4], 10⟩, ⟨1, ⟨#[]⟩, [3], 10⟩], [⟨0, c100, [0]⟩, ⟨0, c100, [1]⟩, ⟨1, ⟨#[]⟩, [2]⟩], [⟨0, [0, 1]⟩, ⟨1, [2]⟩]⟩
theorem ex_lod : lodP (exK 100) exMl.ps exPl exG = exLod := by unfold lodP; rw [pkTo_eq]; kernel_rfl
theorem ex_lod15 : (lodP (exK 15) exMl.ps exPl exG).buns.length = 4 := by unfold lodP; rw [pkTo_eq]; kernel_rfl
theorem ex_where : whereR exLod 4 = (1, 1, 0, true) := by kernel_rfl
end Go.Proofs.YtelklmdlodgdpaaGreat
