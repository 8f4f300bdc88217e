/-
  No cell of these rows narrows 'for every input' (looked for: loops, veiled, ifaces, maps, wideKeys, modest, calm, conditions, laid).
  DERIVED. THE GIVEN ROWS OF THIS SEAT. 6 by the template 'for every input the law returns true; each argument reads behind the call as it read before'; 0 by the template 'total and deterministic' (their statements: YtelklmdlodgdpaaGreatTotals.lean).
  GIVEN WITH THE SEED: the statements are not yours to turn. If you find one false, say at which input.
  Laid BY PROGRAM, IN A SANDBOX (cutbox-rows.mjs): the forced cells as the released guide's own fill.sh prints them over the translation 435a64050b06d30e… (all of the seat's roots in one cut). By AI agents, Wed Nov 11 2026. No macro, syntax, notation, axiom, sorry.
-/
import Derived.Test.YtelklmdlodgdpaaGreatChecked
import GoSem.Claim
import GoSem.ClaimJoined
import GoSem.ClaimMapViews
import Derived.JoinedTies
import Derived.KernelRfl
namespace Go.Proofs.YtelklmdlodgdpaaGreat
/- THE CELL 'sum', in the pinned program and in every row, IS THE sha256 OF THE DUMP (.gsa) THAT YtelklmdlodgdpaaGreatProg.lean LOADS. Nothing in Lean hashes anything: it is a label: what it is worth is what the hold of that sum in a sandbox is worth. -/
noncomputable def Tryz.pinned : Pinned := { name := "ytelklmdlodgdpaagreat", sum := "435a64050b06d30ec3dd6a62cbc6382a69eb75820730a3b22be58d340f9fb73c", checked := Tryz.checked }
namespace Rows
def none {H : Type} : Left H := { results := [], args := [] }

/-- 'letterbaglaw26.TrayFull': WHATEVER THE INPUT: true; the input reads as it did. -/
def trayFullSpec : ChangeSpec := { name := "trayFull", fn := fun _ => fun
  | [d1, d2, d3, d4, d5] => { results := [.lit (.bool true)], args := [d1, d2, d3, d4, d5] }
  | _ => none }
def trayFullRow : OpenClaim := { program := "ytelklmdlodgdpaagreat", sum := "435a64050b06d30ec3dd6a62cbc6382a69eb75820730a3b22be58d340f9fb73c", func := "letterbag/letterbaglaw26.TrayFull", spec := "trayFull", unfollowed := true, recurses := true, apart := false }
def TrayFullSaid : Prop := trayFullRow.holds Tryz.pinned (OpenSpec.ofChange trayFullSpec)

/-- ITS FALSE NEIGHBOUR: 'it returns false'. Refute it at one input. -/
def trayFullWrong : ChangeSpec := { name := "trayFull", fn := fun _ => fun
  | [d1, d2, d3, d4, d5] => { results := [.lit (.bool false)], args := [d1, d2, d3, d4, d5] }
  | _ => none }
def TrayFullWrongFalsely : Prop := trayFullRow.holds Tryz.pinned (OpenSpec.ofChange trayFullWrong)

/-- 'letterbaglaw26.TrayOrder': WHATEVER THE INPUT: true; the input reads as it did. -/
def trayOrderSpec : ChangeSpec := { name := "trayOrder", fn := fun _ => fun
  | [d1, d2, d3, d4, d5] => { results := [.lit (.bool true)], args := [d1, d2, d3, d4, d5] }
  | _ => none }
def trayOrderRow : OpenClaim := { program := "ytelklmdlodgdpaagreat", sum := "435a64050b06d30ec3dd6a62cbc6382a69eb75820730a3b22be58d340f9fb73c", func := "letterbag/letterbaglaw26.TrayOrder", spec := "trayOrder", unfollowed := true, recurses := true, apart := false }
def TrayOrderSaid : Prop := trayOrderRow.holds Tryz.pinned (OpenSpec.ofChange trayOrderSpec)

/-- ITS FALSE NEIGHBOUR: 'it returns false'. Refute it at one input. -/
def trayOrderWrong : ChangeSpec := { name := "trayOrder", fn := fun _ => fun
  | [d1, d2, d3, d4, d5] => { results := [.lit (.bool false)], args := [d1, d2, d3, d4, d5] }
  | _ => none }
def TrayOrderWrongFalsely : Prop := trayOrderRow.holds Tryz.pinned (OpenSpec.ofChange trayOrderWrong)

/-- 'letterbaglaw26.TrayMoves': WHATEVER THE INPUT: true; the input reads as it did. -/
def trayMovesSpec : ChangeSpec := { name := "trayMoves", fn := fun _ => fun
  | [d1, d2, d3, d4, d5, d6, d7] => { results := [.lit (.bool true)], args := [d1, d2, d3, d4, d5, d6, d7] }
  | _ => none }
def trayMovesRow : OpenClaim := { program := "ytelklmdlodgdpaagreat", sum := "435a64050b06d30ec3dd6a62cbc6382a69eb75820730a3b22be58d340f9fb73c", func := "letterbag/letterbaglaw26.TrayMoves", spec := "trayMoves", unfollowed := true, recurses := true, apart := false }
def TrayMovesSaid : Prop := trayMovesRow.holds Tryz.pinned (OpenSpec.ofChange trayMovesSpec)

/-- ITS FALSE NEIGHBOUR: 'it returns false'. Refute it at one input. -/
def trayMovesWrong : ChangeSpec := { name := "trayMoves", fn := fun _ => fun
  | [d1, d2, d3, d4, d5, d6, d7] => { results := [.lit (.bool false)], args := [d1, d2, d3, d4, d5, d6, d7] }
  | _ => none }
def TrayMovesWrongFalsely : Prop := trayMovesRow.holds Tryz.pinned (OpenSpec.ofChange trayMovesWrong)

/-- 'letterbaglaw26.TrayWrong': WHATEVER THE INPUT: true; the input reads as it did. -/
def trayWrongSpec : ChangeSpec := { name := "trayWrong", fn := fun _ => fun
  | [d1, d2, d3] => { results := [.lit (.bool true)], args := [d1, d2, d3] }
  | _ => none }
def trayWrongRow : OpenClaim := { program := "ytelklmdlodgdpaagreat", sum := "435a64050b06d30ec3dd6a62cbc6382a69eb75820730a3b22be58d340f9fb73c", func := "letterbag/letterbaglaw26.TrayWrong", spec := "trayWrong", unfollowed := true, recurses := true, apart := false }
def TrayWrongSaid : Prop := trayWrongRow.holds Tryz.pinned (OpenSpec.ofChange trayWrongSpec)

/-- ITS FALSE NEIGHBOUR: 'it returns false'. Refute it at one input. -/
def trayWrongWrong : ChangeSpec := { name := "trayWrong", fn := fun _ => fun
  | [d1, d2, d3] => { results := [.lit (.bool false)], args := [d1, d2, d3] }
  | _ => none }
def TrayWrongWrongFalsely : Prop := trayWrongRow.holds Tryz.pinned (OpenSpec.ofChange trayWrongWrong)

/-- 'letterbaglaw26.TrayFits': WHATEVER THE INPUT: true; the input reads as it did. -/
def trayFitsSpec : ChangeSpec := { name := "trayFits", fn := fun _ => fun
  | [d1, d2, d3, d4, d5] => { results := [.lit (.bool true)], args := [d1, d2, d3, d4, d5] }
  | _ => none }
def trayFitsRow : OpenClaim := { program := "ytelklmdlodgdpaagreat", sum := "435a64050b06d30ec3dd6a62cbc6382a69eb75820730a3b22be58d340f9fb73c", func := "letterbag/letterbaglaw26.TrayFits", spec := "trayFits", unfollowed := true, recurses := true, apart := false }
def TrayFitsSaid : Prop := trayFitsRow.holds Tryz.pinned (OpenSpec.ofChange trayFitsSpec)

/-- ITS FALSE NEIGHBOUR: 'it returns false'. Refute it at one input. -/
def trayFitsWrong : ChangeSpec := { name := "trayFits", fn := fun _ => fun
  | [d1, d2, d3, d4, d5] => { results := [.lit (.bool false)], args := [d1, d2, d3, d4, d5] }
  | _ => none }
def TrayFitsWrongFalsely : Prop := trayFitsRow.holds Tryz.pinned (OpenSpec.ofChange trayFitsWrong)

/-- 'letterbaglaw26.TrayWide': WHATEVER THE INPUT: true; the input reads as it did. -/
def trayWideSpec : ChangeSpec := { name := "trayWide", fn := fun _ => fun
  | [d1, d2, d3, d4] => { results := [.lit (.bool true)], args := [d1, d2, d3, d4] }
  | _ => none }
def trayWideRow : OpenClaim := { program := "ytelklmdlodgdpaagreat", sum := "435a64050b06d30ec3dd6a62cbc6382a69eb75820730a3b22be58d340f9fb73c", func := "letterbag/letterbaglaw26.TrayWide", spec := "trayWide", unfollowed := true, recurses := true, apart := false }
def TrayWideSaid : Prop := trayWideRow.holds Tryz.pinned (OpenSpec.ofChange trayWideSpec)

/-- ITS FALSE NEIGHBOUR: 'it returns false'. Refute it at one input. -/
def trayWideWrong : ChangeSpec := { name := "trayWide", fn := fun _ => fun
  | [d1, d2, d3, d4] => { results := [.lit (.bool false)], args := [d1, d2, d3, d4] }
  | _ => none }
def TrayWideWrongFalsely : Prop := trayWideRow.holds Tryz.pinned (OpenSpec.ofChange trayWideWrong)

/- THE SECOND FORM. 'bulk': how many values and letters a reading holds, each counted each time it is reached (what is shared counts as often as it is met; a slice's spare places count too). A statement '..UptoSaid' is the law's where the arguments, and the package variables that the reading takes, are together of bulk at most 1048576: NARROWER than '..Said'. Prove '..Said' where nothing that the law and all that it calls make is longer than what came in: it says more and counts as full. Else prove '..UptoSaid'. A law counts once. -/
mutual
def uptoBulk {H : Type} : DataW H → Nat
  | .lit (.string bytes) => bytes.length + 1
  | .lit _ => 1
  | .nil => 1
  | .ptr d => uptoBulk d + 1
  | .slice elems spare => uptoBulkAll elems + uptoBulkAll spare + 1
  | .agg parts => uptoBulkAll parts + 1
  | .iface _ d => uptoBulk d + 1
  | .map entries => uptoBulkEntries entries + 1
  | .held _ => 1
def uptoBulkAll {H : Type} : List (DataW H) → Nat
  | [] => 0
  | d :: r => uptoBulk d + uptoBulkAll r
def uptoBulkEntries {H : Type} : List (Lit × DataW H) → Nat
  | [] => 0
  | x :: r => uptoBulkEntry x + uptoBulkEntries r
def uptoBulkEntry {H : Type} : Lit × DataW H → Nat
  | (.string bytes, d) => bytes.length + uptoBulk d + 1
  | (_, d) => uptoBulk d + 1
 end
def uptoSmall : (H : Type) → List (DataW H) → Bool := fun _ ds => decide (uptoBulkAll ds ≤ 1048576)
def OpenSpec.upto (s : _root_.Go.ChangeSpec) : _root_.Go.OpenSpec := { _root_.Go.OpenSpec.ofChange s with cond := some uptoSmall }

/-- 'letterbaglaw26.TrayFull', WHERE WHAT IT READS IS OF BULK AT MOST 1048576: true; the input reads as it did. -/
def trayFullUptoRow : OpenClaim := { program := "ytelklmdlodgdpaagreat", sum := "435a64050b06d30ec3dd6a62cbc6382a69eb75820730a3b22be58d340f9fb73c", func := "letterbag/letterbaglaw26.TrayFull", spec := "trayFull", unfollowed := true, recurses := true, apart := false, narrowed := true }
def TrayFullUptoSaid : Prop := trayFullUptoRow.holds Tryz.pinned (OpenSpec.upto trayFullSpec)

/-- 'letterbaglaw26.TrayOrder', WHERE WHAT IT READS IS OF BULK AT MOST 1048576: true; the input reads as it did. -/
def trayOrderUptoRow : OpenClaim := { program := "ytelklmdlodgdpaagreat", sum := "435a64050b06d30ec3dd6a62cbc6382a69eb75820730a3b22be58d340f9fb73c", func := "letterbag/letterbaglaw26.TrayOrder", spec := "trayOrder", unfollowed := true, recurses := true, apart := false, narrowed := true }
def TrayOrderUptoSaid : Prop := trayOrderUptoRow.holds Tryz.pinned (OpenSpec.upto trayOrderSpec)

/-- 'letterbaglaw26.TrayMoves', WHERE WHAT IT READS IS OF BULK AT MOST 1048576: true; the input reads as it did. -/
def trayMovesUptoRow : OpenClaim := { program := "ytelklmdlodgdpaagreat", sum := "435a64050b06d30ec3dd6a62cbc6382a69eb75820730a3b22be58d340f9fb73c", func := "letterbag/letterbaglaw26.TrayMoves", spec := "trayMoves", unfollowed := true, recurses := true, apart := false, narrowed := true }
def TrayMovesUptoSaid : Prop := trayMovesUptoRow.holds Tryz.pinned (OpenSpec.upto trayMovesSpec)

/-- 'letterbaglaw26.TrayWrong', WHERE WHAT IT READS IS OF BULK AT MOST 1048576: true; the input reads as it did. -/
def trayWrongUptoRow : OpenClaim := { program := "ytelklmdlodgdpaagreat", sum := "435a64050b06d30ec3dd6a62cbc6382a69eb75820730a3b22be58d340f9fb73c", func := "letterbag/letterbaglaw26.TrayWrong", spec := "trayWrong", unfollowed := true, recurses := true, apart := false, narrowed := true }
def TrayWrongUptoSaid : Prop := trayWrongUptoRow.holds Tryz.pinned (OpenSpec.upto trayWrongSpec)

/-- 'letterbaglaw26.TrayFits', WHERE WHAT IT READS IS OF BULK AT MOST 1048576: true; the input reads as it did. -/
def trayFitsUptoRow : OpenClaim := { program := "ytelklmdlodgdpaagreat", sum := "435a64050b06d30ec3dd6a62cbc6382a69eb75820730a3b22be58d340f9fb73c", func := "letterbag/letterbaglaw26.TrayFits", spec := "trayFits", unfollowed := true, recurses := true, apart := false, narrowed := true }
def TrayFitsUptoSaid : Prop := trayFitsUptoRow.holds Tryz.pinned (OpenSpec.upto trayFitsSpec)

/-- 'letterbaglaw26.TrayWide', WHERE WHAT IT READS IS OF BULK AT MOST 1048576: true; the input reads as it did. -/
def trayWideUptoRow : OpenClaim := { program := "ytelklmdlodgdpaagreat", sum := "435a64050b06d30ec3dd6a62cbc6382a69eb75820730a3b22be58d340f9fb73c", func := "letterbag/letterbaglaw26.TrayWide", spec := "trayWide", unfollowed := true, recurses := true, apart := false, narrowed := true }
def TrayWideUptoSaid : Prop := trayWideUptoRow.holds Tryz.pinned (OpenSpec.upto trayWideSpec)

end Rows
end Go.Proofs.YtelklmdlodgdpaaGreat
