/-
  DERIVED. GIVEN WITH THE SEED: THE CARDS: each row of YtojedplbhialpaaGreatDoorRows.lean that lists a variable, with what it lists TIED to the program's text (the seventh form; the later family's looks); each row that meets fmt, with fmt's text TOLD by the authors' own Lean function (tested against real Go, not proved from fmt's source: count such statements apart). THE CARD IS WHAT COUNTS. Prove the row's statement (the work); the ties are given (YtojedplbhialpaaGreatDoorTie.lean); close each card by the builder's one call (the guide's Derived/Test/ToyasCard.lean, 'card_holds'). Laid BY PROGRAM, IN A SANDBOX (cutbox-door.mjs). By AI agents, Wed Nov 11 2026. No macro, syntax, notation, axiom, sorry.
-/
import Derived.Test.YtojedplbhialpaaGreatDoorRows
import GoSem.ClaimSeven
namespace Go.Proofs.YtojedplbhialpaaGreatDoor
namespace Rows

/-- THE TIED CARD OF 'letterbaglaw27.ManifestTells'. -/
def manifestTellsCard : Claim7 := { stood := { row := manifestTellsRow, standIns := [], harness := (true, "34b2cd45c16d1885dac4dee0b30d8565b6d65bfbc7cfcf494ef29034d37a4daf"), looks := false }, kinds := [], alts := [], laidByText := true, laidKinds := [.data, .data, .data], laidTests := true, laidLooks := .later }
def ManifestTellsCardSaid : Prop := Claim7.holds Tryz.pinned (.plain (OpenSpec.ofChange manifestTellsSpec)) manifestTellsCard

/-- THE TIED CARD OF 'letterbaglaw27.ManifestFits'. -/
def manifestFitsCard : Claim7 := { stood := { row := manifestFitsRow, standIns := [], harness := (true, "34b2cd45c16d1885dac4dee0b30d8565b6d65bfbc7cfcf494ef29034d37a4daf"), looks := false }, kinds := [], alts := [], laidByText := true, laidKinds := [.data, .data, .data], laidTests := true, laidLooks := .later }
def ManifestFitsCardSaid : Prop := Claim7.holds Tryz.pinned (.plain (OpenSpec.ofChange manifestFitsSpec)) manifestFitsCard

/-- THE TIED CARD OF 'letterbaglaw27.ManifestTexts'. -/
def manifestTextsCard : Claim7 := { stood := { row := manifestTextsRow, standIns := [], harness := (true, "34b2cd45c16d1885dac4dee0b30d8565b6d65bfbc7cfcf494ef29034d37a4daf"), looks := false }, kinds := [], alts := [], laidByText := true, laidKinds := [.data, .data, .data], laidTests := true, laidLooks := .later }
def ManifestTextsCardSaid : Prop := Claim7.holds Tryz.pinned (.plain (OpenSpec.ofChange manifestTextsSpec)) manifestTextsCard

/-- THE TIED CARD OF 'letterbaglaw27.ManifestSmall'. -/
def manifestSmallCard : Claim7 := { stood := { row := manifestSmallRow, standIns := [], harness := (true, "34b2cd45c16d1885dac4dee0b30d8565b6d65bfbc7cfcf494ef29034d37a4daf"), looks := false }, kinds := [], alts := [], laidByText := true, laidKinds := [.data, .data, .data], laidTests := true, laidLooks := .later }
def ManifestSmallCardSaid : Prop := Claim7.holds Tryz.pinned (.plain (OpenSpec.ofChange manifestSmallSpec)) manifestSmallCard

/-- THE SECOND FORM's CARD OF 'letterbaglaw27.ManifestTells'. -/
def manifestTellsUptoCard : Claim7 := { stood := { row := manifestTellsUptoRow, standIns := [], harness := (true, "34b2cd45c16d1885dac4dee0b30d8565b6d65bfbc7cfcf494ef29034d37a4daf"), looks := false }, kinds := [], alts := [], laidByText := true, laidKinds := [.data, .data, .data], laidTests := true, laidLooks := .later }
def ManifestTellsUptoCardSaid : Prop := Claim7.holds Tryz.pinned (.plain (OpenSpec.upto manifestTellsSpec)) manifestTellsUptoCard

/-- THE SECOND FORM's CARD OF 'letterbaglaw27.ManifestFits'. -/
def manifestFitsUptoCard : Claim7 := { stood := { row := manifestFitsUptoRow, standIns := [], harness := (true, "34b2cd45c16d1885dac4dee0b30d8565b6d65bfbc7cfcf494ef29034d37a4daf"), looks := false }, kinds := [], alts := [], laidByText := true, laidKinds := [.data, .data, .data], laidTests := true, laidLooks := .later }
def ManifestFitsUptoCardSaid : Prop := Claim7.holds Tryz.pinned (.plain (OpenSpec.upto manifestFitsSpec)) manifestFitsUptoCard

/-- THE SECOND FORM's CARD OF 'letterbaglaw27.ManifestTexts'. -/
def manifestTextsUptoCard : Claim7 := { stood := { row := manifestTextsUptoRow, standIns := [], harness := (true, "34b2cd45c16d1885dac4dee0b30d8565b6d65bfbc7cfcf494ef29034d37a4daf"), looks := false }, kinds := [], alts := [], laidByText := true, laidKinds := [.data, .data, .data], laidTests := true, laidLooks := .later }
def ManifestTextsUptoCardSaid : Prop := Claim7.holds Tryz.pinned (.plain (OpenSpec.upto manifestTextsSpec)) manifestTextsUptoCard

/-- THE SECOND FORM's CARD OF 'letterbaglaw27.ManifestSmall'. -/
def manifestSmallUptoCard : Claim7 := { stood := { row := manifestSmallUptoRow, standIns := [], harness := (true, "34b2cd45c16d1885dac4dee0b30d8565b6d65bfbc7cfcf494ef29034d37a4daf"), looks := false }, kinds := [], alts := [], laidByText := true, laidKinds := [.data, .data, .data], laidTests := true, laidLooks := .later }
def ManifestSmallUptoCardSaid : Prop := Claim7.holds Tryz.pinned (.plain (OpenSpec.upto manifestSmallSpec)) manifestSmallUptoCard
end Rows
end Go.Proofs.YtojedplbhialpaaGreatDoor
