/-
  No cell of these rows narrows 'for every input' (looked for: loops, veiled, ifaces, maps, wideKeys, modest, calm, conditions, laid).
  DERIVED. THE GIVEN ROWS OF THIS SEAT. 7 by the template 'for every input the law returns true; each argument reads behind the call as it read before'; 0 by the template 'total and deterministic' (their statements: YtpieagaggjngjaaTotals.lean).
  GIVEN WITH THE SEED: the statements are not yours to turn. If you find one false, say at which input.
  Laid BY PROGRAM, IN A SANDBOX (cutbox-rows.mjs): the forced cells as the released guide's own fill.sh prints them over the translation 5c157b1cfff31408… (all of the seat's roots in one cut). By AI agents, Wed Nov 11 2026. No macro, syntax, notation, axiom, sorry.
-/
import Derived.Test.YtpieagaggjngjaaChecked
import GoSem.Claim
import GoSem.ClaimJoined
import GoSem.ClaimMapViews
import Derived.JoinedTies
import Derived.KernelRfl
namespace Go.Proofs.Ytpieagaggjngjaa
/- THE CELL 'sum', in the pinned program and in every row, IS THE sha256 OF THE DUMP (.gsa) THAT YtpieagaggjngjaaProg.lean LOADS. Nothing in Lean hashes anything: it is a label: what it is worth is what the hold of that sum in a sandbox is worth. -/
noncomputable def Try.pinned : Pinned := { name := "ytpieagaggjngjaa", sum := "5c157b1cfff31408a410d5b5e1934b2277d9860cc1af13100ce65bab55dceed5", checked := Try.checked }
namespace Rows
def none {H : Type} : Left H := { results := [], args := [] }

/-- 'letterbaglaw25.PresortLeast': WHATEVER THE INPUT: true; the input reads as it did. -/
def presortLeastSpec : ChangeSpec := { name := "presortLeast", fn := fun _ => fun
  | [d1, d2, d3, d4] => { results := [.lit (.bool true)], args := [d1, d2, d3, d4] }
  | _ => none }
def presortLeastRow : OpenClaim := { program := "ytpieagaggjngjaa", sum := "5c157b1cfff31408a410d5b5e1934b2277d9860cc1af13100ce65bab55dceed5", func := "letterbag/letterbaglaw25.PresortLeast", spec := "presortLeast", unfollowed := true, recurses := true, apart := false }
def PresortLeastSaid : Prop := presortLeastRow.holds Try.pinned (OpenSpec.ofChange presortLeastSpec)

/-- ITS FALSE NEIGHBOUR: 'it returns false'. Refute it at one input. -/
def presortLeastWrong : ChangeSpec := { name := "presortLeast", fn := fun _ => fun
  | [d1, d2, d3, d4] => { results := [.lit (.bool false)], args := [d1, d2, d3, d4] }
  | _ => none }
def PresortLeastWrongFalsely : Prop := presortLeastRow.holds Try.pinned (OpenSpec.ofChange presortLeastWrong)

/-- 'letterbaglaw25.PresortMeets': WHATEVER THE INPUT: true; the input reads as it did. -/
def presortMeetsSpec : ChangeSpec := { name := "presortMeets", fn := fun _ => fun
  | [d1, d2, d3, d4] => { results := [.lit (.bool true)], args := [d1, d2, d3, d4] }
  | _ => none }
def presortMeetsRow : OpenClaim := { program := "ytpieagaggjngjaa", sum := "5c157b1cfff31408a410d5b5e1934b2277d9860cc1af13100ce65bab55dceed5", func := "letterbag/letterbaglaw25.PresortMeets", spec := "presortMeets", unfollowed := true, recurses := true, apart := false }
def PresortMeetsSaid : Prop := presortMeetsRow.holds Try.pinned (OpenSpec.ofChange presortMeetsSpec)

/-- ITS FALSE NEIGHBOUR: 'it returns false'. Refute it at one input. -/
def presortMeetsWrong : ChangeSpec := { name := "presortMeets", fn := fun _ => fun
  | [d1, d2, d3, d4] => { results := [.lit (.bool false)], args := [d1, d2, d3, d4] }
  | _ => none }
def PresortMeetsWrongFalsely : Prop := presortMeetsRow.holds Try.pinned (OpenSpec.ofChange presortMeetsWrong)

/-- 'letterbaglaw25.PresortBeats': WHATEVER THE INPUT: true; the input reads as it did. -/
def presortBeatsSpec : ChangeSpec := { name := "presortBeats", fn := fun _ => fun
  | [d1, d2, d3, d4] => { results := [.lit (.bool true)], args := [d1, d2, d3, d4] }
  | _ => none }
def presortBeatsRow : OpenClaim := { program := "ytpieagaggjngjaa", sum := "5c157b1cfff31408a410d5b5e1934b2277d9860cc1af13100ce65bab55dceed5", func := "letterbag/letterbaglaw25.PresortBeats", spec := "presortBeats", unfollowed := true, recurses := true, apart := false }
def PresortBeatsSaid : Prop := presortBeatsRow.holds Try.pinned (OpenSpec.ofChange presortBeatsSpec)

/-- ITS FALSE NEIGHBOUR: 'it returns false'. Refute it at one input. -/
def presortBeatsWrong : ChangeSpec := { name := "presortBeats", fn := fun _ => fun
  | [d1, d2, d3, d4] => { results := [.lit (.bool false)], args := [d1, d2, d3, d4] }
  | _ => none }
def PresortBeatsWrongFalsely : Prop := presortBeatsRow.holds Try.pinned (OpenSpec.ofChange presortBeatsWrong)

/-- 'letterbaglaw25.PresortGrows': WHATEVER THE INPUT: true; the input reads as it did. -/
def presortGrowsSpec : ChangeSpec := { name := "presortGrows", fn := fun _ => fun
  | [d1, d2, d3, d4, d5] => { results := [.lit (.bool true)], args := [d1, d2, d3, d4, d5] }
  | _ => none }
def presortGrowsRow : OpenClaim := { program := "ytpieagaggjngjaa", sum := "5c157b1cfff31408a410d5b5e1934b2277d9860cc1af13100ce65bab55dceed5", func := "letterbag/letterbaglaw25.PresortGrows", spec := "presortGrows", unfollowed := true, recurses := true, apart := false }
def PresortGrowsSaid : Prop := presortGrowsRow.holds Try.pinned (OpenSpec.ofChange presortGrowsSpec)

/-- ITS FALSE NEIGHBOUR: 'it returns false'. Refute it at one input. -/
def presortGrowsWrong : ChangeSpec := { name := "presortGrows", fn := fun _ => fun
  | [d1, d2, d3, d4, d5] => { results := [.lit (.bool false)], args := [d1, d2, d3, d4, d5] }
  | _ => none }
def PresortGrowsWrongFalsely : Prop := presortGrowsRow.holds Try.pinned (OpenSpec.ofChange presortGrowsWrong)

/-- 'letterbaglaw25.PresortSame': WHATEVER THE INPUT: true; the input reads as it did. -/
def presortSameSpec : ChangeSpec := { name := "presortSame", fn := fun _ => fun
  | [d1, d2, d3, d4, d5] => { results := [.lit (.bool true)], args := [d1, d2, d3, d4, d5] }
  | _ => none }
def presortSameRow : OpenClaim := { program := "ytpieagaggjngjaa", sum := "5c157b1cfff31408a410d5b5e1934b2277d9860cc1af13100ce65bab55dceed5", func := "letterbag/letterbaglaw25.PresortSame", spec := "presortSame", unfollowed := true, recurses := true, apart := false }
def PresortSameSaid : Prop := presortSameRow.holds Try.pinned (OpenSpec.ofChange presortSameSpec)

/-- ITS FALSE NEIGHBOUR: 'it returns false'. Refute it at one input. -/
def presortSameWrong : ChangeSpec := { name := "presortSame", fn := fun _ => fun
  | [d1, d2, d3, d4, d5] => { results := [.lit (.bool false)], args := [d1, d2, d3, d4, d5] }
  | _ => none }
def PresortSameWrongFalsely : Prop := presortSameRow.holds Try.pinned (OpenSpec.ofChange presortSameWrong)

/-- 'letterbaglaw25.PresortFew': WHATEVER THE INPUT: true; the input reads as it did. -/
def presortFewSpec : ChangeSpec := { name := "presortFew", fn := fun _ => fun
  | [d1, d2, d3, d4, d5] => { results := [.lit (.bool true)], args := [d1, d2, d3, d4, d5] }
  | _ => none }
def presortFewRow : OpenClaim := { program := "ytpieagaggjngjaa", sum := "5c157b1cfff31408a410d5b5e1934b2277d9860cc1af13100ce65bab55dceed5", func := "letterbag/letterbaglaw25.PresortFew", spec := "presortFew", unfollowed := true, recurses := true, apart := false }
def PresortFewSaid : Prop := presortFewRow.holds Try.pinned (OpenSpec.ofChange presortFewSpec)

/-- ITS FALSE NEIGHBOUR: 'it returns false'. Refute it at one input. -/
def presortFewWrong : ChangeSpec := { name := "presortFew", fn := fun _ => fun
  | [d1, d2, d3, d4, d5] => { results := [.lit (.bool false)], args := [d1, d2, d3, d4, d5] }
  | _ => none }
def PresortFewWrongFalsely : Prop := presortFewRow.holds Try.pinned (OpenSpec.ofChange presortFewWrong)

/-- 'letterbaglaw25.PresortWrong': WHATEVER THE INPUT: true; the input reads as it did. -/
def presortWrongSpec : ChangeSpec := { name := "presortWrong", fn := fun _ => fun
  | [d1, d2, d3] => { results := [.lit (.bool true)], args := [d1, d2, d3] }
  | _ => none }
def presortWrongRow : OpenClaim := { program := "ytpieagaggjngjaa", sum := "5c157b1cfff31408a410d5b5e1934b2277d9860cc1af13100ce65bab55dceed5", func := "letterbag/letterbaglaw25.PresortWrong", spec := "presortWrong", unfollowed := true, recurses := true, apart := false }
def PresortWrongSaid : Prop := presortWrongRow.holds Try.pinned (OpenSpec.ofChange presortWrongSpec)

/-- ITS FALSE NEIGHBOUR: 'it returns false'. Refute it at one input. -/
def presortWrongWrong : ChangeSpec := { name := "presortWrong", fn := fun _ => fun
  | [d1, d2, d3] => { results := [.lit (.bool false)], args := [d1, d2, d3] }
  | _ => none }
def PresortWrongWrongFalsely : Prop := presortWrongRow.holds Try.pinned (OpenSpec.ofChange presortWrongWrong)

/- THE SECOND FORM. 'bulk': how many values and letters a reading holds, each counted each time it is reached (what is shared counts as often as it is met; a slice's spare places count too). A statement '..UptoSaid' is the law's where the arguments, and the package variables that the reading takes, are together of bulk at most 1048576: NARROWER than '..Said'. Prove '..Said' where nothing that the law and all that it calls make is longer than what came in: it says more and counts as full. Else prove '..UptoSaid'. A law counts once. -/
mutual
def uptoBulk {H : Type} : DataW H → Nat
  | .lit (.string bytes) => bytes.length + 1
  | .lit _ => 1
  | .nil => 1
  | .ptr d => uptoBulk d + 1
  | .slice elems spare => uptoBulkAll elems + uptoBulkAll spare + 1
  | .agg parts => uptoBulkAll parts + 1
  | .iface _ d => uptoBulk d + 1
  | .map entries => uptoBulkEntries entries + 1
  | .held _ => 1
def uptoBulkAll {H : Type} : List (DataW H) → Nat
  | [] => 0
  | d :: r => uptoBulk d + uptoBulkAll r
def uptoBulkEntries {H : Type} : List (Lit × DataW H) → Nat
  | [] => 0
  | x :: r => uptoBulkEntry x + uptoBulkEntries r
def uptoBulkEntry {H : Type} : Lit × DataW H → Nat
  | (.string bytes, d) => bytes.length + uptoBulk d + 1
  | (_, d) => uptoBulk d + 1
 end
def uptoSmall : (H : Type) → List (DataW H) → Bool := fun _ ds => decide (uptoBulkAll ds ≤ 1048576)
def OpenSpec.upto (s : _root_.Go.ChangeSpec) : _root_.Go.OpenSpec := { _root_.Go.OpenSpec.ofChange s with cond := some uptoSmall }

/-- 'letterbaglaw25.PresortLeast', WHERE WHAT IT READS IS OF BULK AT MOST 1048576: true; the input reads as it did. -/
def presortLeastUptoRow : OpenClaim := { program := "ytpieagaggjngjaa", sum := "5c157b1cfff31408a410d5b5e1934b2277d9860cc1af13100ce65bab55dceed5", func := "letterbag/letterbaglaw25.PresortLeast", spec := "presortLeast", unfollowed := true, recurses := true, apart := false, narrowed := true }
def PresortLeastUptoSaid : Prop := presortLeastUptoRow.holds Try.pinned (OpenSpec.upto presortLeastSpec)

/-- 'letterbaglaw25.PresortMeets', WHERE WHAT IT READS IS OF BULK AT MOST 1048576: true; the input reads as it did. -/
def presortMeetsUptoRow : OpenClaim := { program := "ytpieagaggjngjaa", sum := "5c157b1cfff31408a410d5b5e1934b2277d9860cc1af13100ce65bab55dceed5", func := "letterbag/letterbaglaw25.PresortMeets", spec := "presortMeets", unfollowed := true, recurses := true, apart := false, narrowed := true }
def PresortMeetsUptoSaid : Prop := presortMeetsUptoRow.holds Try.pinned (OpenSpec.upto presortMeetsSpec)

/-- 'letterbaglaw25.PresortBeats', WHERE WHAT IT READS IS OF BULK AT MOST 1048576: true; the input reads as it did. -/
def presortBeatsUptoRow : OpenClaim := { program := "ytpieagaggjngjaa", sum := "5c157b1cfff31408a410d5b5e1934b2277d9860cc1af13100ce65bab55dceed5", func := "letterbag/letterbaglaw25.PresortBeats", spec := "presortBeats", unfollowed := true, recurses := true, apart := false, narrowed := true }
def PresortBeatsUptoSaid : Prop := presortBeatsUptoRow.holds Try.pinned (OpenSpec.upto presortBeatsSpec)

/-- 'letterbaglaw25.PresortGrows', WHERE WHAT IT READS IS OF BULK AT MOST 1048576: true; the input reads as it did. -/
def presortGrowsUptoRow : OpenClaim := { program := "ytpieagaggjngjaa", sum := "5c157b1cfff31408a410d5b5e1934b2277d9860cc1af13100ce65bab55dceed5", func := "letterbag/letterbaglaw25.PresortGrows", spec := "presortGrows", unfollowed := true, recurses := true, apart := false, narrowed := true }
def PresortGrowsUptoSaid : Prop := presortGrowsUptoRow.holds Try.pinned (OpenSpec.upto presortGrowsSpec)

/-- 'letterbaglaw25.PresortSame', WHERE WHAT IT READS IS OF BULK AT MOST 1048576: true; the input reads as it did. -/
def presortSameUptoRow : OpenClaim := { program := "ytpieagaggjngjaa", sum := "5c157b1cfff31408a410d5b5e1934b2277d9860cc1af13100ce65bab55dceed5", func := "letterbag/letterbaglaw25.PresortSame", spec := "presortSame", unfollowed := true, recurses := true, apart := false, narrowed := true }
def PresortSameUptoSaid : Prop := presortSameUptoRow.holds Try.pinned (OpenSpec.upto presortSameSpec)

/-- 'letterbaglaw25.PresortFew', WHERE WHAT IT READS IS OF BULK AT MOST 1048576: true; the input reads as it did. -/
def presortFewUptoRow : OpenClaim := { program := "ytpieagaggjngjaa", sum := "5c157b1cfff31408a410d5b5e1934b2277d9860cc1af13100ce65bab55dceed5", func := "letterbag/letterbaglaw25.PresortFew", spec := "presortFew", unfollowed := true, recurses := true, apart := false, narrowed := true }
def PresortFewUptoSaid : Prop := presortFewUptoRow.holds Try.pinned (OpenSpec.upto presortFewSpec)

/-- 'letterbaglaw25.PresortWrong', WHERE WHAT IT READS IS OF BULK AT MOST 1048576: true; the input reads as it did. -/
def presortWrongUptoRow : OpenClaim := { program := "ytpieagaggjngjaa", sum := "5c157b1cfff31408a410d5b5e1934b2277d9860cc1af13100ce65bab55dceed5", func := "letterbag/letterbaglaw25.PresortWrong", spec := "presortWrong", unfollowed := true, recurses := true, apart := false, narrowed := true }
def PresortWrongUptoSaid : Prop := presortWrongUptoRow.holds Try.pinned (OpenSpec.upto presortWrongSpec)

end Rows
end Go.Proofs.Ytpieagaggjngjaa
