/-
  DERIVED. GIVEN WITH THE SEED: THE CARDS: each row of YtgjllfonmgfhgaaGreatDoorRows.lean that lists a variable, with what it lists TIED to the program's text (the seventh form; the later family's looks); each row that meets fmt, with fmt's text TOLD by the authors' own Lean function (tested against real Go, not proved from fmt's source: count such statements apart). THE CARD IS WHAT COUNTS. Prove the row's statement (the work); the ties are given (YtgjllfonmgfhgaaGreatDoorTie.lean); close each card by the builder's one call (the guide's Derived/Test/ToyasCard.lean, 'card_holds'). Laid BY PROGRAM, IN A SANDBOX (cutbox-door.mjs). By AI agents, Wed Nov 11 2026. No macro, syntax, notation, axiom, sorry.
-/
import Derived.Test.YtgjllfonmgfhgaaGreatDoorRows
import GoSem.ClaimSeven
namespace Go.Proofs.YtgjllfonmgfhgaaGreatDoor
namespace Rows

/-- THE TIED CARD OF 'identitylaw11.IndexPlays'. -/
def indexPlaysCard : Claim7 := { stood := { row := indexPlaysRow, standIns := [], harness := (true, "dc3a5961e7515a9d1b6a78c5891b0fbed128e602aeb1c8f434c2d1ac1cde6e5b"), looks := true }, kinds := [], alts := [], laidByText := true, laidKinds := [.data, .data, .data, .data, .sentinel, .sentinel, .pinned, .pinned], laidTests := true, laidLooks := .later }
def IndexPlaysCardSaid : Prop := Claim7.holds Tryz.pinned (.plain (OpenSpec.ofChange indexPlaysSpec)) indexPlaysCard

/-- THE TIED CARD OF 'identitylaw11.IndexCandidates'. -/
def indexCandidatesCard : Claim7 := { stood := { row := indexCandidatesRow, standIns := [], harness := (true, "dc3a5961e7515a9d1b6a78c5891b0fbed128e602aeb1c8f434c2d1ac1cde6e5b"), looks := true }, kinds := [], alts := [], laidByText := true, laidKinds := [.data, .data, .data, .data, .sentinel, .sentinel, .pinned, .pinned], laidTests := true, laidLooks := .later }
def IndexCandidatesCardSaid : Prop := Claim7.holds Tryz.pinned (.plain (OpenSpec.ofChange indexCandidatesSpec)) indexCandidatesCard

/-- THE TIED CARD OF 'identitylaw11.IndexAgrees'. -/
def indexAgreesCard : Claim7 := { stood := { row := indexAgreesRow, standIns := [], harness := (true, "dc3a5961e7515a9d1b6a78c5891b0fbed128e602aeb1c8f434c2d1ac1cde6e5b"), looks := true }, kinds := [], alts := [], laidByText := true, laidKinds := [.data, .data, .data, .data, .sentinel, .sentinel, .pinned, .pinned], laidTests := true, laidLooks := .later }
def IndexAgreesCardSaid : Prop := Claim7.holds Tryz.pinned (.plain (OpenSpec.ofChange indexAgreesSpec)) indexAgreesCard

/-- THE TIED CARD OF 'identitylaw11.IndexReplaces'. -/
def indexReplacesCard : Claim7 := { stood := { row := indexReplacesRow, standIns := [], harness := (true, "dc3a5961e7515a9d1b6a78c5891b0fbed128e602aeb1c8f434c2d1ac1cde6e5b"), looks := true }, kinds := [], alts := [], laidByText := true, laidKinds := [.data, .data, .data, .data, .sentinel, .sentinel, .pinned, .pinned], laidTests := true, laidLooks := .later }
def IndexReplacesCardSaid : Prop := Claim7.holds Tryz.pinned (.plain (OpenSpec.ofChange indexReplacesSpec)) indexReplacesCard

/-- THE TIED CARD OF 'identitylaw11.IndexNil'. -/
def indexNilCard : Claim7 := { stood := { row := indexNilRow, standIns := [], harness := (true, "dc3a5961e7515a9d1b6a78c5891b0fbed128e602aeb1c8f434c2d1ac1cde6e5b"), looks := true }, kinds := [], alts := [], laidByText := true, laidKinds := [.data, .data, .data, .data, .sentinel, .sentinel, .pinned, .pinned], laidTests := true, laidLooks := .later }
def IndexNilCardSaid : Prop := Claim7.holds Tryz.pinned (.plain (OpenSpec.ofChange indexNilSpec)) indexNilCard

/-- THE TIED CARD OF 'identitylaw11.IndexComplete'. -/
def indexCompleteCard : Claim7 := { stood := { row := indexCompleteRow, standIns := [], harness := (true, "dc3a5961e7515a9d1b6a78c5891b0fbed128e602aeb1c8f434c2d1ac1cde6e5b"), looks := true }, kinds := [], alts := [], laidByText := true, laidKinds := [.data, .data, .data, .data, .sentinel, .sentinel, .pinned, .pinned], laidTests := true, laidLooks := .later }
def IndexCompleteCardSaid : Prop := Claim7.holds Tryz.pinned (.plain (OpenSpec.ofChange indexCompleteSpec)) indexCompleteCard

/-- THE SECOND FORM's CARD OF 'identitylaw11.IndexPlays'. -/
def indexPlaysUptoCard : Claim7 := { stood := { row := indexPlaysUptoRow, standIns := [], harness := (true, "dc3a5961e7515a9d1b6a78c5891b0fbed128e602aeb1c8f434c2d1ac1cde6e5b"), looks := true }, kinds := [], alts := [], laidByText := true, laidKinds := [.data, .data, .data, .data, .sentinel, .sentinel, .pinned, .pinned], laidTests := true, laidLooks := .later }
def IndexPlaysUptoCardSaid : Prop := Claim7.holds Tryz.pinned (.plain (OpenSpec.upto indexPlaysSpec)) indexPlaysUptoCard

/-- THE SECOND FORM's CARD OF 'identitylaw11.IndexCandidates'. -/
def indexCandidatesUptoCard : Claim7 := { stood := { row := indexCandidatesUptoRow, standIns := [], harness := (true, "dc3a5961e7515a9d1b6a78c5891b0fbed128e602aeb1c8f434c2d1ac1cde6e5b"), looks := true }, kinds := [], alts := [], laidByText := true, laidKinds := [.data, .data, .data, .data, .sentinel, .sentinel, .pinned, .pinned], laidTests := true, laidLooks := .later }
def IndexCandidatesUptoCardSaid : Prop := Claim7.holds Tryz.pinned (.plain (OpenSpec.upto indexCandidatesSpec)) indexCandidatesUptoCard

/-- THE SECOND FORM's CARD OF 'identitylaw11.IndexAgrees'. -/
def indexAgreesUptoCard : Claim7 := { stood := { row := indexAgreesUptoRow, standIns := [], harness := (true, "dc3a5961e7515a9d1b6a78c5891b0fbed128e602aeb1c8f434c2d1ac1cde6e5b"), looks := true }, kinds := [], alts := [], laidByText := true, laidKinds := [.data, .data, .data, .data, .sentinel, .sentinel, .pinned, .pinned], laidTests := true, laidLooks := .later }
def IndexAgreesUptoCardSaid : Prop := Claim7.holds Tryz.pinned (.plain (OpenSpec.upto indexAgreesSpec)) indexAgreesUptoCard

/-- THE SECOND FORM's CARD OF 'identitylaw11.IndexReplaces'. -/
def indexReplacesUptoCard : Claim7 := { stood := { row := indexReplacesUptoRow, standIns := [], harness := (true, "dc3a5961e7515a9d1b6a78c5891b0fbed128e602aeb1c8f434c2d1ac1cde6e5b"), looks := true }, kinds := [], alts := [], laidByText := true, laidKinds := [.data, .data, .data, .data, .sentinel, .sentinel, .pinned, .pinned], laidTests := true, laidLooks := .later }
def IndexReplacesUptoCardSaid : Prop := Claim7.holds Tryz.pinned (.plain (OpenSpec.upto indexReplacesSpec)) indexReplacesUptoCard

/-- THE SECOND FORM's CARD OF 'identitylaw11.IndexNil'. -/
def indexNilUptoCard : Claim7 := { stood := { row := indexNilUptoRow, standIns := [], harness := (true, "dc3a5961e7515a9d1b6a78c5891b0fbed128e602aeb1c8f434c2d1ac1cde6e5b"), looks := true }, kinds := [], alts := [], laidByText := true, laidKinds := [.data, .data, .data, .data, .sentinel, .sentinel, .pinned, .pinned], laidTests := true, laidLooks := .later }
def IndexNilUptoCardSaid : Prop := Claim7.holds Tryz.pinned (.plain (OpenSpec.upto indexNilSpec)) indexNilUptoCard

/-- THE SECOND FORM's CARD OF 'identitylaw11.IndexComplete'. -/
def indexCompleteUptoCard : Claim7 := { stood := { row := indexCompleteUptoRow, standIns := [], harness := (true, "dc3a5961e7515a9d1b6a78c5891b0fbed128e602aeb1c8f434c2d1ac1cde6e5b"), looks := true }, kinds := [], alts := [], laidByText := true, laidKinds := [.data, .data, .data, .data, .sentinel, .sentinel, .pinned, .pinned], laidTests := true, laidLooks := .later }
def IndexCompleteUptoCardSaid : Prop := Claim7.holds Tryz.pinned (.plain (OpenSpec.upto indexCompleteSpec)) indexCompleteUptoCard
end Rows
end Go.Proofs.YtgjllfonmgfhgaaGreatDoor
