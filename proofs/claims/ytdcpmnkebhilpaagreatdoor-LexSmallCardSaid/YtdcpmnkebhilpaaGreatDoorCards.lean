/-
  DERIVED. GIVEN WITH THE SEED: THE CARDS: each row of YtdcpmnkebhilpaaGreatDoorRows.lean that lists a variable, with what it lists TIED to the program's text (the seventh form; the later family's looks); each row that meets fmt, with fmt's text TOLD by the authors' own Lean function (tested against real Go, not proved from fmt's source: count such statements apart). THE CARD IS WHAT COUNTS. Prove the row's statement (the work); the ties are given (YtdcpmnkebhilpaaGreatDoorTie.lean); close each card by the builder's one call (the guide's Derived/Test/ToyasCard.lean, 'card_holds'). Laid BY PROGRAM, IN A SANDBOX (cutbox-door.mjs). By AI agents, Wed Nov 11 2026. No macro, syntax, notation, axiom, sorry.
-/
import Derived.Test.YtdcpmnkebhilpaaGreatDoorRows
import GoSem.ClaimSeven
namespace Go.Proofs.YtdcpmnkebhilpaaGreatDoor
namespace Rows

/-- THE TIED CARD OF 'letterbaglaw08.LexSmall'. -/
def lexSmallCard : Claim7 := { stood := { row := lexSmallRow, standIns := [], harness := (true, "8c287f6feffe1abb738e49a1c0bfa6aff9396a71a50225f0e0c9d5496d1bf97a"), looks := false }, kinds := [], alts := [], laidByText := true, laidKinds := [.data, .listed, .data, .pinned], laidTests := true, laidLooks := .later }
def LexSmallCardSaid : Prop := Claim7.holds Tryz.pinned (.plain (OpenSpec.ofChange lexSmallSpec)) lexSmallCard

/-- THE SECOND FORM's CARD OF 'letterbaglaw08.LexSmall'. -/
def lexSmallUptoCard : Claim7 := { stood := { row := lexSmallUptoRow, standIns := [], harness := (true, "8c287f6feffe1abb738e49a1c0bfa6aff9396a71a50225f0e0c9d5496d1bf97a"), looks := false }, kinds := [], alts := [], laidByText := true, laidKinds := [.data, .listed, .data, .pinned], laidTests := true, laidLooks := .later }
def LexSmallUptoCardSaid : Prop := Claim7.holds Tryz.pinned (.plain (OpenSpec.upto lexSmallSpec)) lexSmallUptoCard
end Rows
end Go.Proofs.YtdcpmnkebhilpaaGreatDoor
