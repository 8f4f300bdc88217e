/-
  No cell of these rows narrows 'for every input' (looked for: loops, veiled, ifaces, maps, wideKeys, modest, calm, conditions, laid).
  DERIVED. THE GIVEN ROWS OF THIS SEAT. 7 by the template 'for every input the law returns true; each argument reads behind the call as it read before'; 0 by the template 'total and deterministic' (their statements: YtdahgfopighhlaaTotals.lean).
  GIVEN WITH THE SEED: the statements are not yours to turn. If you find one false, say at which input.
  Laid BY PROGRAM, IN A SANDBOX (cutbox-rows.mjs): the forced cells as the released guide's own fill.sh prints them over the translation f186ca9167bf0d21… (all of the seat's roots in one cut). By AI agents, Wed Nov 11 2026. No macro, syntax, notation, axiom, sorry.
-/
import Derived.Test.YtdahgfopighhlaaChecked
import GoSem.Claim
import GoSem.ClaimJoined
import GoSem.ClaimMapViews
import Derived.JoinedTies
import Derived.KernelRfl
namespace Go.Proofs.Ytdahgfopighhlaa
/- THE CELL 'sum', in the pinned program and in every row, IS THE sha256 OF THE DUMP (.gsa) THAT YtdahgfopighhlaaProg.lean LOADS. Nothing in Lean hashes anything: it is a label: what it is worth is what the hold of that sum in a sandbox is worth. -/
noncomputable def Try.pinned : Pinned := { name := "ytdahgfopighhlaa", sum := "f186ca9167bf0d21552d7c3a90c01edb4a2ffa84edb715f27706f7ae78953439", checked := Try.checked }
namespace Rows
def none {H : Type} : Left H := { results := [], args := [] }

/-- 'letterbaglaw23.SchemeCut': WHATEVER THE INPUT: true; the input reads as it did. -/
def schemeCutSpec : ChangeSpec := { name := "schemeCut", fn := fun _ => fun
  | [d1, d2] => { results := [.lit (.bool true)], args := [d1, d2] }
  | _ => none }
def schemeCutRow : OpenClaim := { program := "ytdahgfopighhlaa", sum := "f186ca9167bf0d21552d7c3a90c01edb4a2ffa84edb715f27706f7ae78953439", func := "letterbag/letterbaglaw23.SchemeCut", spec := "schemeCut", unfollowed := true, recurses := true, apart := false }
def SchemeCutSaid : Prop := schemeCutRow.holds Try.pinned (OpenSpec.ofChange schemeCutSpec)

/-- ITS FALSE NEIGHBOUR: 'it returns false'. Refute it at one input. -/
def schemeCutWrong : ChangeSpec := { name := "schemeCut", fn := fun _ => fun
  | [d1, d2] => { results := [.lit (.bool false)], args := [d1, d2] }
  | _ => none }
def SchemeCutWrongFalsely : Prop := schemeCutRow.holds Try.pinned (OpenSpec.ofChange schemeCutWrong)

/-- 'letterbaglaw23.SchemeOrder': WHATEVER THE INPUT: true; the input reads as it did. -/
def schemeOrderSpec : ChangeSpec := { name := "schemeOrder", fn := fun _ => fun
  | [d1, d2, d3] => { results := [.lit (.bool true)], args := [d1, d2, d3] }
  | _ => none }
def schemeOrderRow : OpenClaim := { program := "ytdahgfopighhlaa", sum := "f186ca9167bf0d21552d7c3a90c01edb4a2ffa84edb715f27706f7ae78953439", func := "letterbag/letterbaglaw23.SchemeOrder", spec := "schemeOrder", unfollowed := true, recurses := true, apart := false }
def SchemeOrderSaid : Prop := schemeOrderRow.holds Try.pinned (OpenSpec.ofChange schemeOrderSpec)

/-- ITS FALSE NEIGHBOUR: 'it returns false'. Refute it at one input. -/
def schemeOrderWrong : ChangeSpec := { name := "schemeOrder", fn := fun _ => fun
  | [d1, d2, d3] => { results := [.lit (.bool false)], args := [d1, d2, d3] }
  | _ => none }
def SchemeOrderWrongFalsely : Prop := schemeOrderRow.holds Try.pinned (OpenSpec.ofChange schemeOrderWrong)

/-- 'letterbaglaw23.SchemeLabels': WHATEVER THE INPUT: true; the input reads as it did. -/
def schemeLabelsSpec : ChangeSpec := { name := "schemeLabels", fn := fun _ => fun
  | [d1, d2, d3] => { results := [.lit (.bool true)], args := [d1, d2, d3] }
  | _ => none }
def schemeLabelsRow : OpenClaim := { program := "ytdahgfopighhlaa", sum := "f186ca9167bf0d21552d7c3a90c01edb4a2ffa84edb715f27706f7ae78953439", func := "letterbag/letterbaglaw23.SchemeLabels", spec := "schemeLabels", unfollowed := true, recurses := true, apart := false }
def SchemeLabelsSaid : Prop := schemeLabelsRow.holds Try.pinned (OpenSpec.ofChange schemeLabelsSpec)

/-- ITS FALSE NEIGHBOUR: 'it returns false'. Refute it at one input. -/
def schemeLabelsWrong : ChangeSpec := { name := "schemeLabels", fn := fun _ => fun
  | [d1, d2, d3] => { results := [.lit (.bool false)], args := [d1, d2, d3] }
  | _ => none }
def SchemeLabelsWrongFalsely : Prop := schemeLabelsRow.holds Try.pinned (OpenSpec.ofChange schemeLabelsWrong)

/-- 'letterbaglaw23.SchemeTells': WHATEVER THE INPUT: true; the input reads as it did. -/
def schemeTellsSpec : ChangeSpec := { name := "schemeTells", fn := fun _ => fun
  | [d1, d2, d3] => { results := [.lit (.bool true)], args := [d1, d2, d3] }
  | _ => none }
def schemeTellsRow : OpenClaim := { program := "ytdahgfopighhlaa", sum := "f186ca9167bf0d21552d7c3a90c01edb4a2ffa84edb715f27706f7ae78953439", func := "letterbag/letterbaglaw23.SchemeTells", spec := "schemeTells", unfollowed := true, recurses := true, apart := false }
def SchemeTellsSaid : Prop := schemeTellsRow.holds Try.pinned (OpenSpec.ofChange schemeTellsSpec)

/-- ITS FALSE NEIGHBOUR: 'it returns false'. Refute it at one input. -/
def schemeTellsWrong : ChangeSpec := { name := "schemeTells", fn := fun _ => fun
  | [d1, d2, d3] => { results := [.lit (.bool false)], args := [d1, d2, d3] }
  | _ => none }
def SchemeTellsWrongFalsely : Prop := schemeTellsRow.holds Try.pinned (OpenSpec.ofChange schemeTellsWrong)

/-- 'letterbaglaw23.SchemeNests': WHATEVER THE INPUT: true; the input reads as it did. -/
def schemeNestsSpec : ChangeSpec := { name := "schemeNests", fn := fun _ => fun
  | [d1, d2, d3] => { results := [.lit (.bool true)], args := [d1, d2, d3] }
  | _ => none }
def schemeNestsRow : OpenClaim := { program := "ytdahgfopighhlaa", sum := "f186ca9167bf0d21552d7c3a90c01edb4a2ffa84edb715f27706f7ae78953439", func := "letterbag/letterbaglaw23.SchemeNests", spec := "schemeNests", unfollowed := true, recurses := true, apart := false }
def SchemeNestsSaid : Prop := schemeNestsRow.holds Try.pinned (OpenSpec.ofChange schemeNestsSpec)

/-- ITS FALSE NEIGHBOUR: 'it returns false'. Refute it at one input. -/
def schemeNestsWrong : ChangeSpec := { name := "schemeNests", fn := fun _ => fun
  | [d1, d2, d3] => { results := [.lit (.bool false)], args := [d1, d2, d3] }
  | _ => none }
def SchemeNestsWrongFalsely : Prop := schemeNestsRow.holds Try.pinned (OpenSpec.ofChange schemeNestsWrong)

/-- 'letterbaglaw23.SchemeParts': WHATEVER THE INPUT: true; the input reads as it did. -/
def schemePartsSpec : ChangeSpec := { name := "schemeParts", fn := fun _ => fun
  | [d1, d2] => { results := [.lit (.bool true)], args := [d1, d2] }
  | _ => none }
def schemePartsRow : OpenClaim := { program := "ytdahgfopighhlaa", sum := "f186ca9167bf0d21552d7c3a90c01edb4a2ffa84edb715f27706f7ae78953439", func := "letterbag/letterbaglaw23.SchemeParts", spec := "schemeParts", unfollowed := true, recurses := true, apart := false }
def SchemePartsSaid : Prop := schemePartsRow.holds Try.pinned (OpenSpec.ofChange schemePartsSpec)

/-- ITS FALSE NEIGHBOUR: 'it returns false'. Refute it at one input. -/
def schemePartsWrong : ChangeSpec := { name := "schemeParts", fn := fun _ => fun
  | [d1, d2] => { results := [.lit (.bool false)], args := [d1, d2] }
  | _ => none }
def SchemePartsWrongFalsely : Prop := schemePartsRow.holds Try.pinned (OpenSpec.ofChange schemePartsWrong)

/-- 'letterbaglaw23.SchemeWrong': WHATEVER THE INPUT: true; the input reads as it did. -/
def schemeWrongSpec : ChangeSpec := { name := "schemeWrong", fn := fun _ => fun
  | [d1, d2, d3] => { results := [.lit (.bool true)], args := [d1, d2, d3] }
  | _ => none }
def schemeWrongRow : OpenClaim := { program := "ytdahgfopighhlaa", sum := "f186ca9167bf0d21552d7c3a90c01edb4a2ffa84edb715f27706f7ae78953439", func := "letterbag/letterbaglaw23.SchemeWrong", spec := "schemeWrong", unfollowed := true, recurses := true, apart := false }
def SchemeWrongSaid : Prop := schemeWrongRow.holds Try.pinned (OpenSpec.ofChange schemeWrongSpec)

/-- ITS FALSE NEIGHBOUR: 'it returns false'. Refute it at one input. -/
def schemeWrongWrong : ChangeSpec := { name := "schemeWrong", fn := fun _ => fun
  | [d1, d2, d3] => { results := [.lit (.bool false)], args := [d1, d2, d3] }
  | _ => none }
def SchemeWrongWrongFalsely : Prop := schemeWrongRow.holds Try.pinned (OpenSpec.ofChange schemeWrongWrong)

/- THE SECOND FORM. 'bulk': how many values and letters a reading holds, each counted each time it is reached (what is shared counts as often as it is met; a slice's spare places count too). A statement '..UptoSaid' is the law's where the arguments, and the package variables that the reading takes, are together of bulk at most 1048576: NARROWER than '..Said'. Prove '..Said' where nothing that the law and all that it calls make is longer than what came in: it says more and counts as full. Else prove '..UptoSaid'. A law counts once. -/
mutual
def uptoBulk {H : Type} : DataW H → Nat
  | .lit (.string bytes) => bytes.length + 1
  | .lit _ => 1
  | .nil => 1
  | .ptr d => uptoBulk d + 1
  | .slice elems spare => uptoBulkAll elems + uptoBulkAll spare + 1
  | .agg parts => uptoBulkAll parts + 1
  | .iface _ d => uptoBulk d + 1
  | .map entries => uptoBulkEntries entries + 1
  | .held _ => 1
def uptoBulkAll {H : Type} : List (DataW H) → Nat
  | [] => 0
  | d :: r => uptoBulk d + uptoBulkAll r
def uptoBulkEntries {H : Type} : List (Lit × DataW H) → Nat
  | [] => 0
  | x :: r => uptoBulkEntry x + uptoBulkEntries r
def uptoBulkEntry {H : Type} : Lit × DataW H → Nat
  | (.string bytes, d) => bytes.length + uptoBulk d + 1
  | (_, d) => uptoBulk d + 1
 end
def uptoSmall : (H : Type) → List (DataW H) → Bool := fun _ ds => decide (uptoBulkAll ds ≤ 1048576)
def OpenSpec.upto (s : _root_.Go.ChangeSpec) : _root_.Go.OpenSpec := { _root_.Go.OpenSpec.ofChange s with cond := some uptoSmall }

/-- 'letterbaglaw23.SchemeCut', WHERE WHAT IT READS IS OF BULK AT MOST 1048576: true; the input reads as it did. -/
def schemeCutUptoRow : OpenClaim := { program := "ytdahgfopighhlaa", sum := "f186ca9167bf0d21552d7c3a90c01edb4a2ffa84edb715f27706f7ae78953439", func := "letterbag/letterbaglaw23.SchemeCut", spec := "schemeCut", unfollowed := true, recurses := true, apart := false, narrowed := true }
def SchemeCutUptoSaid : Prop := schemeCutUptoRow.holds Try.pinned (OpenSpec.upto schemeCutSpec)

/-- 'letterbaglaw23.SchemeOrder', WHERE WHAT IT READS IS OF BULK AT MOST 1048576: true; the input reads as it did. -/
def schemeOrderUptoRow : OpenClaim := { program := "ytdahgfopighhlaa", sum := "f186ca9167bf0d21552d7c3a90c01edb4a2ffa84edb715f27706f7ae78953439", func := "letterbag/letterbaglaw23.SchemeOrder", spec := "schemeOrder", unfollowed := true, recurses := true, apart := false, narrowed := true }
def SchemeOrderUptoSaid : Prop := schemeOrderUptoRow.holds Try.pinned (OpenSpec.upto schemeOrderSpec)

/-- 'letterbaglaw23.SchemeLabels', WHERE WHAT IT READS IS OF BULK AT MOST 1048576: true; the input reads as it did. -/
def schemeLabelsUptoRow : OpenClaim := { program := "ytdahgfopighhlaa", sum := "f186ca9167bf0d21552d7c3a90c01edb4a2ffa84edb715f27706f7ae78953439", func := "letterbag/letterbaglaw23.SchemeLabels", spec := "schemeLabels", unfollowed := true, recurses := true, apart := false, narrowed := true }
def SchemeLabelsUptoSaid : Prop := schemeLabelsUptoRow.holds Try.pinned (OpenSpec.upto schemeLabelsSpec)

/-- 'letterbaglaw23.SchemeTells', WHERE WHAT IT READS IS OF BULK AT MOST 1048576: true; the input reads as it did. -/
def schemeTellsUptoRow : OpenClaim := { program := "ytdahgfopighhlaa", sum := "f186ca9167bf0d21552d7c3a90c01edb4a2ffa84edb715f27706f7ae78953439", func := "letterbag/letterbaglaw23.SchemeTells", spec := "schemeTells", unfollowed := true, recurses := true, apart := false, narrowed := true }
def SchemeTellsUptoSaid : Prop := schemeTellsUptoRow.holds Try.pinned (OpenSpec.upto schemeTellsSpec)

/-- 'letterbaglaw23.SchemeNests', WHERE WHAT IT READS IS OF BULK AT MOST 1048576: true; the input reads as it did. -/
def schemeNestsUptoRow : OpenClaim := { program := "ytdahgfopighhlaa", sum := "f186ca9167bf0d21552d7c3a90c01edb4a2ffa84edb715f27706f7ae78953439", func := "letterbag/letterbaglaw23.SchemeNests", spec := "schemeNests", unfollowed := true, recurses := true, apart := false, narrowed := true }
def SchemeNestsUptoSaid : Prop := schemeNestsUptoRow.holds Try.pinned (OpenSpec.upto schemeNestsSpec)

/-- 'letterbaglaw23.SchemeParts', WHERE WHAT IT READS IS OF BULK AT MOST 1048576: true; the input reads as it did. -/
def schemePartsUptoRow : OpenClaim := { program := "ytdahgfopighhlaa", sum := "f186ca9167bf0d21552d7c3a90c01edb4a2ffa84edb715f27706f7ae78953439", func := "letterbag/letterbaglaw23.SchemeParts", spec := "schemeParts", unfollowed := true, recurses := true, apart := false, narrowed := true }
def SchemePartsUptoSaid : Prop := schemePartsUptoRow.holds Try.pinned (OpenSpec.upto schemePartsSpec)

/-- 'letterbaglaw23.SchemeWrong', WHERE WHAT IT READS IS OF BULK AT MOST 1048576: true; the input reads as it did. -/
def schemeWrongUptoRow : OpenClaim := { program := "ytdahgfopighhlaa", sum := "f186ca9167bf0d21552d7c3a90c01edb4a2ffa84edb715f27706f7ae78953439", func := "letterbag/letterbaglaw23.SchemeWrong", spec := "schemeWrong", unfollowed := true, recurses := true, apart := false, narrowed := true }
def SchemeWrongUptoSaid : Prop := schemeWrongUptoRow.holds Try.pinned (OpenSpec.upto schemeWrongSpec)

end Rows
end Go.Proofs.Ytdahgfopighhlaa
