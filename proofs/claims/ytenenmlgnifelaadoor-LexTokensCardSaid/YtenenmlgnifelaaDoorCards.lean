/-
  DERIVED. GIVEN WITH THE SEED: THE CARDS: each row of YtenenmlgnifelaaDoorRows.lean that lists a variable, with what it lists TIED to the program's text (the seventh form; the later family's looks); each row that meets fmt, with fmt's text TOLD by the authors' own Lean function (tested against real Go, not proved from fmt's source: count such statements apart). THE CARD IS WHAT COUNTS. Prove the row's statement (the work); the ties are given (YtenenmlgnifelaaDoorTie.lean); close each card by the builder's one call (the guide's Derived/Test/ToyasCard.lean, 'card_holds'). Laid BY PROGRAM, IN A SANDBOX (cutbox-door.mjs). By AI agents, Wed Nov 11 2026. No macro, syntax, notation, axiom, sorry.
-/
import Derived.Test.YtenenmlgnifelaaDoorRows
import GoSem.ClaimSeven
namespace Go.Proofs.YtenenmlgnifelaaDoor
namespace Rows

/-- THE TIED CARD OF 'letterbaglaw08.LexTokens'. -/
def lexTokensCard : Claim7 := { stood := { row := lexTokensRow, standIns := [], harness := (true, "1a42aad80d100c592291bb41c58915bd66cf5986851d36f075a7e9cce77c5fcf"), looks := false }, kinds := [], alts := [], laidByText := true, laidKinds := [.data, .pinned], laidTests := true, laidLooks := .later }
def LexTokensCardSaid : Prop := Claim7.holds Tryd.pinned (.plain (OpenSpec.ofChange lexTokensSpec)) lexTokensCard

/-- THE TIED CARD OF 'letterbaglaw08.LexWords'. -/
def lexWordsCard : Claim7 := { stood := { row := lexWordsRow, standIns := [], harness := (true, "1a42aad80d100c592291bb41c58915bd66cf5986851d36f075a7e9cce77c5fcf"), looks := false }, kinds := [], alts := [], laidByText := true, laidKinds := [.data, .pinned], laidTests := true, laidLooks := .later }
def LexWordsCardSaid : Prop := Claim7.holds Tryd.pinned (.plain (OpenSpec.ofChange lexWordsSpec)) lexWordsCard

/-- THE TIED CARD OF 'letterbaglaw08.LexClasses'. -/
def lexClassesCard : Claim7 := { stood := { row := lexClassesRow, standIns := [], harness := (true, "1a42aad80d100c592291bb41c58915bd66cf5986851d36f075a7e9cce77c5fcf"), looks := false }, kinds := [], alts := [], laidByText := true, laidKinds := [.data, .pinned], laidTests := true, laidLooks := .later }
def LexClassesCardSaid : Prop := Claim7.holds Tryd.pinned (.plain (OpenSpec.ofChange lexClassesSpec)) lexClassesCard

/-- THE TIED CARD OF 'letterbaglaw08.LexNumbers'. -/
def lexNumbersCard : Claim7 := { stood := { row := lexNumbersRow, standIns := [], harness := (true, "1a42aad80d100c592291bb41c58915bd66cf5986851d36f075a7e9cce77c5fcf"), looks := false }, kinds := [], alts := [], laidByText := true, laidKinds := [.data, .pinned], laidTests := true, laidLooks := .later }
def LexNumbersCardSaid : Prop := Claim7.holds Tryd.pinned (.plain (OpenSpec.ofChange lexNumbersSpec)) lexNumbersCard

/-- THE TIED CARD OF 'letterbaglaw08.LexAlone'. -/
def lexAloneCard : Claim7 := { stood := { row := lexAloneRow, standIns := [], harness := (true, "1a42aad80d100c592291bb41c58915bd66cf5986851d36f075a7e9cce77c5fcf"), looks := false }, kinds := [], alts := [], laidByText := true, laidKinds := [.data, .pinned], laidTests := true, laidLooks := .later }
def LexAloneCardSaid : Prop := Claim7.holds Tryd.pinned (.plain (OpenSpec.ofChange lexAloneSpec)) lexAloneCard

/-- THE TIED CARD OF 'letterbaglaw08.LexBack'. -/
def lexBackCard : Claim7 := { stood := { row := lexBackRow, standIns := [], harness := (true, "1a42aad80d100c592291bb41c58915bd66cf5986851d36f075a7e9cce77c5fcf"), looks := false }, kinds := [], alts := [], laidByText := true, laidKinds := [.data, .pinned], laidTests := true, laidLooks := .later }
def LexBackCardSaid : Prop := Claim7.holds Tryd.pinned (.plain (OpenSpec.ofChange lexBackSpec)) lexBackCard

/-- THE TIED CARD OF 'letterbaglaw08.LexCodes'. -/
def lexCodesCard : Claim7 := { stood := { row := lexCodesRow, standIns := [], harness := (true, "1a42aad80d100c592291bb41c58915bd66cf5986851d36f075a7e9cce77c5fcf"), looks := false }, kinds := [], alts := [], laidByText := true, laidKinds := [.data, .pinned], laidTests := true, laidLooks := .later }
def LexCodesCardSaid : Prop := Claim7.holds Tryd.pinned (.plain (OpenSpec.ofChange lexCodesSpec)) lexCodesCard

/-- THE SECOND FORM's CARD OF 'letterbaglaw08.LexTokens'. -/
def lexTokensUptoCard : Claim7 := { stood := { row := lexTokensUptoRow, standIns := [], harness := (true, "1a42aad80d100c592291bb41c58915bd66cf5986851d36f075a7e9cce77c5fcf"), looks := false }, kinds := [], alts := [], laidByText := true, laidKinds := [.data, .pinned], laidTests := true, laidLooks := .later }
def LexTokensUptoCardSaid : Prop := Claim7.holds Tryd.pinned (.plain (OpenSpec.upto lexTokensSpec)) lexTokensUptoCard

/-- THE SECOND FORM's CARD OF 'letterbaglaw08.LexWords'. -/
def lexWordsUptoCard : Claim7 := { stood := { row := lexWordsUptoRow, standIns := [], harness := (true, "1a42aad80d100c592291bb41c58915bd66cf5986851d36f075a7e9cce77c5fcf"), looks := false }, kinds := [], alts := [], laidByText := true, laidKinds := [.data, .pinned], laidTests := true, laidLooks := .later }
def LexWordsUptoCardSaid : Prop := Claim7.holds Tryd.pinned (.plain (OpenSpec.upto lexWordsSpec)) lexWordsUptoCard

/-- THE SECOND FORM's CARD OF 'letterbaglaw08.LexClasses'. -/
def lexClassesUptoCard : Claim7 := { stood := { row := lexClassesUptoRow, standIns := [], harness := (true, "1a42aad80d100c592291bb41c58915bd66cf5986851d36f075a7e9cce77c5fcf"), looks := false }, kinds := [], alts := [], laidByText := true, laidKinds := [.data, .pinned], laidTests := true, laidLooks := .later }
def LexClassesUptoCardSaid : Prop := Claim7.holds Tryd.pinned (.plain (OpenSpec.upto lexClassesSpec)) lexClassesUptoCard

/-- THE SECOND FORM's CARD OF 'letterbaglaw08.LexNumbers'. -/
def lexNumbersUptoCard : Claim7 := { stood := { row := lexNumbersUptoRow, standIns := [], harness := (true, "1a42aad80d100c592291bb41c58915bd66cf5986851d36f075a7e9cce77c5fcf"), looks := false }, kinds := [], alts := [], laidByText := true, laidKinds := [.data, .pinned], laidTests := true, laidLooks := .later }
def LexNumbersUptoCardSaid : Prop := Claim7.holds Tryd.pinned (.plain (OpenSpec.upto lexNumbersSpec)) lexNumbersUptoCard

/-- THE SECOND FORM's CARD OF 'letterbaglaw08.LexAlone'. -/
def lexAloneUptoCard : Claim7 := { stood := { row := lexAloneUptoRow, standIns := [], harness := (true, "1a42aad80d100c592291bb41c58915bd66cf5986851d36f075a7e9cce77c5fcf"), looks := false }, kinds := [], alts := [], laidByText := true, laidKinds := [.data, .pinned], laidTests := true, laidLooks := .later }
def LexAloneUptoCardSaid : Prop := Claim7.holds Tryd.pinned (.plain (OpenSpec.upto lexAloneSpec)) lexAloneUptoCard

/-- THE SECOND FORM's CARD OF 'letterbaglaw08.LexBack'. -/
def lexBackUptoCard : Claim7 := { stood := { row := lexBackUptoRow, standIns := [], harness := (true, "1a42aad80d100c592291bb41c58915bd66cf5986851d36f075a7e9cce77c5fcf"), looks := false }, kinds := [], alts := [], laidByText := true, laidKinds := [.data, .pinned], laidTests := true, laidLooks := .later }
def LexBackUptoCardSaid : Prop := Claim7.holds Tryd.pinned (.plain (OpenSpec.upto lexBackSpec)) lexBackUptoCard

/-- THE SECOND FORM's CARD OF 'letterbaglaw08.LexCodes'. -/
def lexCodesUptoCard : Claim7 := { stood := { row := lexCodesUptoRow, standIns := [], harness := (true, "1a42aad80d100c592291bb41c58915bd66cf5986851d36f075a7e9cce77c5fcf"), looks := false }, kinds := [], alts := [], laidByText := true, laidKinds := [.data, .pinned], laidTests := true, laidLooks := .later }
def LexCodesUptoCardSaid : Prop := Claim7.holds Tryd.pinned (.plain (OpenSpec.upto lexCodesSpec)) lexCodesUptoCard
end Rows
end Go.Proofs.YtenenmlgnifelaaDoor
