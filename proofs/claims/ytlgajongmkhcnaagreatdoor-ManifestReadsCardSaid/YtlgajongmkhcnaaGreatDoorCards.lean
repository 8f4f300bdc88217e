/-
  DERIVED. GIVEN WITH THE SEED: THE CARDS: each row of YtlgajongmkhcnaaGreatDoorRows.lean that lists a variable, with what it lists TIED to the program's text (the seventh form; the later family's looks); each row that meets fmt, with fmt's text TOLD by the authors' own Lean function (tested against real Go, not proved from fmt's source: count such statements apart). THE CARD IS WHAT COUNTS. Prove the row's statement (the work); the ties are given (YtlgajongmkhcnaaGreatDoorTie.lean); close each card by the builder's one call (the guide's Derived/Test/ToyasCard.lean, 'card_holds'). Laid BY PROGRAM, IN A SANDBOX (cutbox-door.mjs). By AI agents, Wed Nov 11 2026. No macro, syntax, notation, axiom, sorry.
-/
import Derived.Test.YtlgajongmkhcnaaGreatDoorRows
import GoSem.ClaimSeven
namespace Go.Proofs.YtlgajongmkhcnaaGreatDoor
namespace Rows

/-- THE TIED CARD OF 'letterbaglaw27.ManifestSums'. -/
def manifestSumsCard : Claim7 := { stood := { row := manifestSumsRow, standIns := [], harness := (true, "90399fa6d9059495c10ab5e384f2639377445f063ac88c2bad8853051b50922e"), looks := false }, kinds := [], alts := [], laidByText := true, laidKinds := [.data, .data, .data], laidTests := true, laidLooks := .later }
def ManifestSumsCardSaid : Prop := Claim7.holds Tryz.pinned (.plain (OpenSpec.ofChange manifestSumsSpec)) manifestSumsCard

/-- THE TIED CARD OF 'letterbaglaw27.ManifestHolds'. -/
def manifestHoldsCard : Claim7 := { stood := { row := manifestHoldsRow, standIns := [], harness := (true, "90399fa6d9059495c10ab5e384f2639377445f063ac88c2bad8853051b50922e"), looks := false }, kinds := [], alts := [], laidByText := true, laidKinds := [.data, .data, .data], laidTests := true, laidLooks := .later }
def ManifestHoldsCardSaid : Prop := Claim7.holds Tryz.pinned (.plain (OpenSpec.ofChange manifestHoldsSpec)) manifestHoldsCard

/-- THE TIED CARD OF 'letterbaglaw27.ManifestLeast'. -/
def manifestLeastCard : Claim7 := { stood := { row := manifestLeastRow, standIns := [], harness := (true, "90399fa6d9059495c10ab5e384f2639377445f063ac88c2bad8853051b50922e"), looks := false }, kinds := [], alts := [], laidByText := true, laidKinds := [.data, .data, .data], laidTests := true, laidLooks := .later }
def ManifestLeastCardSaid : Prop := Claim7.holds Tryz.pinned (.plain (OpenSpec.ofChange manifestLeastSpec)) manifestLeastCard

/-- THE TIED CARD OF 'letterbaglaw27.ManifestWrong'. -/
def manifestWrongCard : Claim7 := { stood := { row := manifestWrongRow, standIns := [], harness := (true, "90399fa6d9059495c10ab5e384f2639377445f063ac88c2bad8853051b50922e"), looks := false }, kinds := [], alts := [], laidByText := true, laidKinds := [.data, .data, .data], laidTests := true, laidLooks := .later }
def ManifestWrongCardSaid : Prop := Claim7.holds Tryz.pinned (.plain (OpenSpec.ofChange manifestWrongSpec)) manifestWrongCard

/-- THE TIED CARD OF 'letterbaglaw27.ManifestReads'. -/
def manifestReadsCard : Claim7 := { stood := { row := manifestReadsRow, standIns := [], harness := (true, "90399fa6d9059495c10ab5e384f2639377445f063ac88c2bad8853051b50922e"), looks := false }, kinds := [], alts := [], laidByText := true, laidKinds := [.data, .data, .data, .data, .pinned], laidTests := true, laidLooks := .later }
def ManifestReadsCardSaid : Prop := Claim7.holds Tryz.pinned (.plain (OpenSpec.ofChange manifestReadsSpec)) manifestReadsCard

/-- THE SECOND FORM's CARD OF 'letterbaglaw27.ManifestSums'. -/
def manifestSumsUptoCard : Claim7 := { stood := { row := manifestSumsUptoRow, standIns := [], harness := (true, "90399fa6d9059495c10ab5e384f2639377445f063ac88c2bad8853051b50922e"), looks := false }, kinds := [], alts := [], laidByText := true, laidKinds := [.data, .data, .data], laidTests := true, laidLooks := .later }
def ManifestSumsUptoCardSaid : Prop := Claim7.holds Tryz.pinned (.plain (OpenSpec.upto manifestSumsSpec)) manifestSumsUptoCard

/-- THE SECOND FORM's CARD OF 'letterbaglaw27.ManifestHolds'. -/
def manifestHoldsUptoCard : Claim7 := { stood := { row := manifestHoldsUptoRow, standIns := [], harness := (true, "90399fa6d9059495c10ab5e384f2639377445f063ac88c2bad8853051b50922e"), looks := false }, kinds := [], alts := [], laidByText := true, laidKinds := [.data, .data, .data], laidTests := true, laidLooks := .later }
def ManifestHoldsUptoCardSaid : Prop := Claim7.holds Tryz.pinned (.plain (OpenSpec.upto manifestHoldsSpec)) manifestHoldsUptoCard

/-- THE SECOND FORM's CARD OF 'letterbaglaw27.ManifestLeast'. -/
def manifestLeastUptoCard : Claim7 := { stood := { row := manifestLeastUptoRow, standIns := [], harness := (true, "90399fa6d9059495c10ab5e384f2639377445f063ac88c2bad8853051b50922e"), looks := false }, kinds := [], alts := [], laidByText := true, laidKinds := [.data, .data, .data], laidTests := true, laidLooks := .later }
def ManifestLeastUptoCardSaid : Prop := Claim7.holds Tryz.pinned (.plain (OpenSpec.upto manifestLeastSpec)) manifestLeastUptoCard

/-- THE SECOND FORM's CARD OF 'letterbaglaw27.ManifestWrong'. -/
def manifestWrongUptoCard : Claim7 := { stood := { row := manifestWrongUptoRow, standIns := [], harness := (true, "90399fa6d9059495c10ab5e384f2639377445f063ac88c2bad8853051b50922e"), looks := false }, kinds := [], alts := [], laidByText := true, laidKinds := [.data, .data, .data], laidTests := true, laidLooks := .later }
def ManifestWrongUptoCardSaid : Prop := Claim7.holds Tryz.pinned (.plain (OpenSpec.upto manifestWrongSpec)) manifestWrongUptoCard

/-- THE SECOND FORM's CARD OF 'letterbaglaw27.ManifestReads'. -/
def manifestReadsUptoCard : Claim7 := { stood := { row := manifestReadsUptoRow, standIns := [], harness := (true, "90399fa6d9059495c10ab5e384f2639377445f063ac88c2bad8853051b50922e"), looks := false }, kinds := [], alts := [], laidByText := true, laidKinds := [.data, .data, .data, .data, .pinned], laidTests := true, laidLooks := .later }
def ManifestReadsUptoCardSaid : Prop := Claim7.holds Tryz.pinned (.plain (OpenSpec.upto manifestReadsSpec)) manifestReadsUptoCard
end Rows
end Go.Proofs.YtlgajongmkhcnaaGreatDoor
