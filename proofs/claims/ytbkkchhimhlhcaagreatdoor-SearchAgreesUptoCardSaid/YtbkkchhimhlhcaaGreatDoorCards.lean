/-
  DERIVED. GIVEN WITH THE SEED: THE CARDS: each row of YtbkkchhimhlhcaaGreatDoorRows.lean that lists a variable, with what it lists TIED to the program's text (the seventh form; the later family's looks); each row that meets fmt, with fmt's text TOLD by the authors' own Lean function (tested against real Go, not proved from fmt's source: count such statements apart). THE CARD IS WHAT COUNTS. Prove the row's statement (the work); the ties are given (YtbkkchhimhlhcaaGreatDoorTie.lean); close each card by the builder's one call (the guide's Derived/Test/ToyasCard.lean, 'card_holds'). Laid BY PROGRAM, IN A SANDBOX (cutbox-door.mjs). By AI agents, Wed Nov 11 2026. No macro, syntax, notation, axiom, sorry.
-/
import Derived.Test.YtbkkchhimhlhcaaGreatDoorRows
import GoSem.ClaimSeven
namespace Go.Proofs.YtbkkchhimhlhcaaGreatDoor
namespace Rows

/-- THE TIED CARD OF 'identitylaw11.IndexCandidates'. -/
def indexCandidatesCard : Claim7 := { stood := { row := indexCandidatesRow, standIns := [], harness := (true, "eda49f218cc8f5c5ec7f49db4741b5044a658aebd3e993a687dd287a354b8873"), looks := true }, kinds := [], alts := [], laidByText := true, laidKinds := [.data, .data, .data, .data, .sentinel, .sentinel, .pinned, .pinned], laidTests := true, laidLooks := .later }
def IndexCandidatesCardSaid : Prop := Claim7.holds Tryz.pinned (.plain (OpenSpec.ofChange indexCandidatesSpec)) indexCandidatesCard

/-- THE TIED CARD OF 'identitylaw12.SearchChecks'. -/
def searchChecksCard : Claim7 := { stood := { row := searchChecksRow, standIns := [], harness := (true, "eda49f218cc8f5c5ec7f49db4741b5044a658aebd3e993a687dd287a354b8873"), looks := true }, kinds := [], alts := [], laidByText := true, laidKinds := [.data, .data, .data, .data, .sentinel, .sentinel, .pinned, .pinned], laidTests := true, laidLooks := .later }
def SearchChecksCardSaid : Prop := Claim7.holds Tryz.pinned (.plain (OpenSpec.ofChange searchChecksSpec)) searchChecksCard

/-- THE TIED CARD OF 'identitylaw12.SearchScans'. -/
def searchScansCard : Claim7 := { stood := { row := searchScansRow, standIns := [], harness := (true, "eda49f218cc8f5c5ec7f49db4741b5044a658aebd3e993a687dd287a354b8873"), looks := true }, kinds := [], alts := [], laidByText := true, laidKinds := [.data, .data, .data, .data, .sentinel, .sentinel, .pinned, .pinned], laidTests := true, laidLooks := .later }
def SearchScansCardSaid : Prop := Claim7.holds Tryz.pinned (.plain (OpenSpec.ofChange searchScansSpec)) searchScansCard

/-- THE TIED CARD OF 'identitylaw12.SearchRuns'. -/
def searchRunsCard : Claim7 := { stood := { row := searchRunsRow, standIns := [], harness := (true, "eda49f218cc8f5c5ec7f49db4741b5044a658aebd3e993a687dd287a354b8873"), looks := true }, kinds := [], alts := [], laidByText := true, laidKinds := [.data, .data, .data, .data, .sentinel, .sentinel, .pinned, .pinned], laidTests := true, laidLooks := .later }
def SearchRunsCardSaid : Prop := Claim7.holds Tryz.pinned (.plain (OpenSpec.ofChange searchRunsSpec)) searchRunsCard

/-- THE TIED CARD OF 'identitylaw12.SearchAgrees'. -/
def searchAgreesCard : Claim7 := { stood := { row := searchAgreesRow, standIns := [], harness := (true, "eda49f218cc8f5c5ec7f49db4741b5044a658aebd3e993a687dd287a354b8873"), looks := true }, kinds := [], alts := [], laidByText := true, laidKinds := [.data, .data, .data, .data, .sentinel, .sentinel, .pinned, .pinned], laidTests := true, laidLooks := .later }
def SearchAgreesCardSaid : Prop := Claim7.holds Tryz.pinned (.plain (OpenSpec.ofChange searchAgreesSpec)) searchAgreesCard

/-- THE TIED CARD OF 'identitylaw12.SearchOrders'. -/
def searchOrdersCard : Claim7 := { stood := { row := searchOrdersRow, standIns := [], harness := (true, "eda49f218cc8f5c5ec7f49db4741b5044a658aebd3e993a687dd287a354b8873"), looks := true }, kinds := [], alts := [], laidByText := true, laidKinds := [.data, .data, .data, .data, .sentinel, .sentinel, .pinned, .pinned], laidTests := true, laidLooks := .later }
def SearchOrdersCardSaid : Prop := Claim7.holds Tryz.pinned (.plain (OpenSpec.ofChange searchOrdersSpec)) searchOrdersCard

/-- THE TIED CARD OF 'identitylaw12.SearchParts'. -/
def searchPartsCard : Claim7 := { stood := { row := searchPartsRow, standIns := [], harness := (true, "eda49f218cc8f5c5ec7f49db4741b5044a658aebd3e993a687dd287a354b8873"), looks := true }, kinds := [], alts := [], laidByText := true, laidKinds := [.data, .data, .data, .data, .sentinel, .sentinel, .pinned, .pinned], laidTests := true, laidLooks := .later }
def SearchPartsCardSaid : Prop := Claim7.holds Tryz.pinned (.plain (OpenSpec.ofChange searchPartsSpec)) searchPartsCard

/-- THE SECOND FORM's CARD OF 'identitylaw11.IndexCandidates'. -/
def indexCandidatesUptoCard : Claim7 := { stood := { row := indexCandidatesUptoRow, standIns := [], harness := (true, "eda49f218cc8f5c5ec7f49db4741b5044a658aebd3e993a687dd287a354b8873"), looks := true }, kinds := [], alts := [], laidByText := true, laidKinds := [.data, .data, .data, .data, .sentinel, .sentinel, .pinned, .pinned], laidTests := true, laidLooks := .later }
def IndexCandidatesUptoCardSaid : Prop := Claim7.holds Tryz.pinned (.plain (OpenSpec.upto indexCandidatesSpec)) indexCandidatesUptoCard

/-- THE SECOND FORM's CARD OF 'identitylaw12.SearchChecks'. -/
def searchChecksUptoCard : Claim7 := { stood := { row := searchChecksUptoRow, standIns := [], harness := (true, "eda49f218cc8f5c5ec7f49db4741b5044a658aebd3e993a687dd287a354b8873"), looks := true }, kinds := [], alts := [], laidByText := true, laidKinds := [.data, .data, .data, .data, .sentinel, .sentinel, .pinned, .pinned], laidTests := true, laidLooks := .later }
def SearchChecksUptoCardSaid : Prop := Claim7.holds Tryz.pinned (.plain (OpenSpec.upto searchChecksSpec)) searchChecksUptoCard

/-- THE SECOND FORM's CARD OF 'identitylaw12.SearchScans'. -/
def searchScansUptoCard : Claim7 := { stood := { row := searchScansUptoRow, standIns := [], harness := (true, "eda49f218cc8f5c5ec7f49db4741b5044a658aebd3e993a687dd287a354b8873"), looks := true }, kinds := [], alts := [], laidByText := true, laidKinds := [.data, .data, .data, .data, .sentinel, .sentinel, .pinned, .pinned], laidTests := true, laidLooks := .later }
def SearchScansUptoCardSaid : Prop := Claim7.holds Tryz.pinned (.plain (OpenSpec.upto searchScansSpec)) searchScansUptoCard

/-- THE SECOND FORM's CARD OF 'identitylaw12.SearchRuns'. -/
def searchRunsUptoCard : Claim7 := { stood := { row := searchRunsUptoRow, standIns := [], harness := (true, "eda49f218cc8f5c5ec7f49db4741b5044a658aebd3e993a687dd287a354b8873"), looks := true }, kinds := [], alts := [], laidByText := true, laidKinds := [.data, .data, .data, .data, .sentinel, .sentinel, .pinned, .pinned], laidTests := true, laidLooks := .later }
def SearchRunsUptoCardSaid : Prop := Claim7.holds Tryz.pinned (.plain (OpenSpec.upto searchRunsSpec)) searchRunsUptoCard

/-- THE SECOND FORM's CARD OF 'identitylaw12.SearchAgrees'. -/
def searchAgreesUptoCard : Claim7 := { stood := { row := searchAgreesUptoRow, standIns := [], harness := (true, "eda49f218cc8f5c5ec7f49db4741b5044a658aebd3e993a687dd287a354b8873"), looks := true }, kinds := [], alts := [], laidByText := true, laidKinds := [.data, .data, .data, .data, .sentinel, .sentinel, .pinned, .pinned], laidTests := true, laidLooks := .later }
def SearchAgreesUptoCardSaid : Prop := Claim7.holds Tryz.pinned (.plain (OpenSpec.upto searchAgreesSpec)) searchAgreesUptoCard

/-- THE SECOND FORM's CARD OF 'identitylaw12.SearchOrders'. -/
def searchOrdersUptoCard : Claim7 := { stood := { row := searchOrdersUptoRow, standIns := [], harness := (true, "eda49f218cc8f5c5ec7f49db4741b5044a658aebd3e993a687dd287a354b8873"), looks := true }, kinds := [], alts := [], laidByText := true, laidKinds := [.data, .data, .data, .data, .sentinel, .sentinel, .pinned, .pinned], laidTests := true, laidLooks := .later }
def SearchOrdersUptoCardSaid : Prop := Claim7.holds Tryz.pinned (.plain (OpenSpec.upto searchOrdersSpec)) searchOrdersUptoCard

/-- THE SECOND FORM's CARD OF 'identitylaw12.SearchParts'. -/
def searchPartsUptoCard : Claim7 := { stood := { row := searchPartsUptoRow, standIns := [], harness := (true, "eda49f218cc8f5c5ec7f49db4741b5044a658aebd3e993a687dd287a354b8873"), looks := true }, kinds := [], alts := [], laidByText := true, laidKinds := [.data, .data, .data, .data, .sentinel, .sentinel, .pinned, .pinned], laidTests := true, laidLooks := .later }
def SearchPartsUptoCardSaid : Prop := Claim7.holds Tryz.pinned (.plain (OpenSpec.upto searchPartsSpec)) searchPartsUptoCard
end Rows
end Go.Proofs.YtbkkchhimhlhcaaGreatDoor
