/-
  DERIVED. GIVEN WITH THE SEED: THE CARDS: each row of YtnaaoilflokmfaaGreatDoorRows.lean that lists a variable, with what it lists TIED to the program's text (the seventh form; the later family's looks); each row that meets fmt, with fmt's text TOLD by the authors' own Lean function (tested against real Go, not proved from fmt's source: count such statements apart). THE CARD IS WHAT COUNTS. Prove the row's statement (the work); the ties are given (YtnaaoilflokmfaaGreatDoorTie.lean); close each card by the builder's one call (the guide's Derived/Test/ToyasCard.lean, 'card_holds'). Laid BY PROGRAM, IN A SANDBOX (cutbox-door.mjs). By AI agents, Wed Nov 11 2026. No macro, syntax, notation, axiom, sorry.
-/
import Derived.Test.YtnaaoilflokmfaaGreatDoorRows
import GoSem.ClaimSeven
namespace Go.Proofs.YtnaaoilflokmfaaGreatDoor
namespace Rows

/-- THE TIED CARD OF 'identitylaw07.SchemaReturns'. -/
def schemaReturnsCard : Claim7 := { stood := { row := schemaReturnsRow, standIns := [], harness := (true, "d07fe4f1f8d61778b51672e71e79ce55e13fda14d1d2dcc9ecc0215ed971609d"), looks := true }, kinds := [], alts := [], laidByText := true, laidKinds := [.data, .data, .data, .data, .sentinel, .sentinel, .pinned, .pinned], laidTests := true, laidLooks := .later }
def SchemaReturnsCardSaid : Prop := Claim7.holds Tryz.pinned (.plain (OpenSpec.ofChange schemaReturnsSpec)) schemaReturnsCard

/-- THE TIED CARD OF 'identitylaw07.SchemaOrders'. -/
def schemaOrdersCard : Claim7 := { stood := { row := schemaOrdersRow, standIns := [], harness := (true, "d07fe4f1f8d61778b51672e71e79ce55e13fda14d1d2dcc9ecc0215ed971609d"), looks := true }, kinds := [], alts := [], laidByText := true, laidKinds := [.data, .data, .data, .data, .sentinel, .sentinel, .pinned, .pinned], laidTests := true, laidLooks := .later }
def SchemaOrdersCardSaid : Prop := Claim7.holds Tryz.pinned (.plain (OpenSpec.ofChange schemaOrdersSpec)) schemaOrdersCard

/-- THE TIED CARD OF 'identitylaw07.SchemaInherits'. -/
def schemaInheritsCard : Claim7 := { stood := { row := schemaInheritsRow, standIns := [], harness := (true, "d07fe4f1f8d61778b51672e71e79ce55e13fda14d1d2dcc9ecc0215ed971609d"), looks := true }, kinds := [], alts := [], laidByText := true, laidKinds := [.data, .data, .data, .data, .sentinel, .sentinel, .pinned, .pinned], laidTests := true, laidLooks := .later }
def SchemaInheritsCardSaid : Prop := Claim7.holds Tryz.pinned (.plain (OpenSpec.ofChange schemaInheritsSpec)) schemaInheritsCard

/-- THE SECOND FORM's CARD OF 'identitylaw07.SchemaReturns'. -/
def schemaReturnsUptoCard : Claim7 := { stood := { row := schemaReturnsUptoRow, standIns := [], harness := (true, "d07fe4f1f8d61778b51672e71e79ce55e13fda14d1d2dcc9ecc0215ed971609d"), looks := true }, kinds := [], alts := [], laidByText := true, laidKinds := [.data, .data, .data, .data, .sentinel, .sentinel, .pinned, .pinned], laidTests := true, laidLooks := .later }
def SchemaReturnsUptoCardSaid : Prop := Claim7.holds Tryz.pinned (.plain (OpenSpec.upto schemaReturnsSpec)) schemaReturnsUptoCard

/-- THE SECOND FORM's CARD OF 'identitylaw07.SchemaOrders'. -/
def schemaOrdersUptoCard : Claim7 := { stood := { row := schemaOrdersUptoRow, standIns := [], harness := (true, "d07fe4f1f8d61778b51672e71e79ce55e13fda14d1d2dcc9ecc0215ed971609d"), looks := true }, kinds := [], alts := [], laidByText := true, laidKinds := [.data, .data, .data, .data, .sentinel, .sentinel, .pinned, .pinned], laidTests := true, laidLooks := .later }
def SchemaOrdersUptoCardSaid : Prop := Claim7.holds Tryz.pinned (.plain (OpenSpec.upto schemaOrdersSpec)) schemaOrdersUptoCard

/-- THE SECOND FORM's CARD OF 'identitylaw07.SchemaInherits'. -/
def schemaInheritsUptoCard : Claim7 := { stood := { row := schemaInheritsUptoRow, standIns := [], harness := (true, "d07fe4f1f8d61778b51672e71e79ce55e13fda14d1d2dcc9ecc0215ed971609d"), looks := true }, kinds := [], alts := [], laidByText := true, laidKinds := [.data, .data, .data, .data, .sentinel, .sentinel, .pinned, .pinned], laidTests := true, laidLooks := .later }
def SchemaInheritsUptoCardSaid : Prop := Claim7.holds Tryz.pinned (.plain (OpenSpec.upto schemaInheritsSpec)) schemaInheritsUptoCard
end Rows
end Go.Proofs.YtnaaoilflokmfaaGreatDoor
