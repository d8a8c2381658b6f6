/-
  DERIVED. GIVEN WITH THE SEED: THE CARDS: each row of YtoelhiccofpgfaaGreatDoorRows.lean that lists a variable, with what it lists TIED to the program's text (the seventh form; the later family's looks); each row that meets fmt, with fmt's text TOLD by the authors' own Lean function (tested against real Go, not proved from fmt's source: count such statements apart). THE CARD IS WHAT COUNTS. Prove the row's statement (the work); the ties are given (YtoelhiccofpgfaaGreatDoorTie.lean); close each card by the builder's one call (the guide's Derived/Test/ToyasCard.lean, 'card_holds'). Laid BY PROGRAM, IN A SANDBOX (cutbox-door.mjs). By AI agents, Wed Nov 11 2026. No macro, syntax, notation, axiom, sorry.
-/
import Derived.Test.YtoelhiccofpgfaaGreatDoorRows
import GoSem.ClaimSeven
namespace Go.Proofs.YtoelhiccofpgfaaGreatDoor
namespace Rows

/-- THE TIED CARD OF 'identitylaw07.SchemaChecks'. -/
def schemaChecksCard : Claim7 := { stood := { row := schemaChecksRow, standIns := [], harness := (true, "7a1cdda2c0c160a7e2d0a74a125fdfc412fb448d4212c510e7db959f5293a485"), looks := true }, kinds := [], alts := [], laidByText := true, laidKinds := [.data, .data, .data, .data, .sentinel, .sentinel, .pinned, .pinned], laidTests := true, laidLooks := .later }
def SchemaChecksCardSaid : Prop := Claim7.holds Tryz.pinned (.plain (OpenSpec.ofChange schemaChecksSpec)) schemaChecksCard

/-- THE TIED CARD OF 'identitylaw07.SchemaLooks'. -/
def schemaLooksCard : Claim7 := { stood := { row := schemaLooksRow, standIns := [], harness := (true, "7a1cdda2c0c160a7e2d0a74a125fdfc412fb448d4212c510e7db959f5293a485"), looks := true }, kinds := [], alts := [], laidByText := true, laidKinds := [.data, .data, .data, .data, .sentinel, .sentinel, .pinned, .pinned], laidTests := true, laidLooks := .later }
def SchemaLooksCardSaid : Prop := Claim7.holds Tryz.pinned (.plain (OpenSpec.ofChange schemaLooksSpec)) schemaLooksCard

/-- THE SECOND FORM's CARD OF 'identitylaw07.SchemaChecks'. -/
def schemaChecksUptoCard : Claim7 := { stood := { row := schemaChecksUptoRow, standIns := [], harness := (true, "7a1cdda2c0c160a7e2d0a74a125fdfc412fb448d4212c510e7db959f5293a485"), looks := true }, kinds := [], alts := [], laidByText := true, laidKinds := [.data, .data, .data, .data, .sentinel, .sentinel, .pinned, .pinned], laidTests := true, laidLooks := .later }
def SchemaChecksUptoCardSaid : Prop := Claim7.holds Tryz.pinned (.plain (OpenSpec.upto schemaChecksSpec)) schemaChecksUptoCard

/-- THE SECOND FORM's CARD OF 'identitylaw07.SchemaLooks'. -/
def schemaLooksUptoCard : Claim7 := { stood := { row := schemaLooksUptoRow, standIns := [], harness := (true, "7a1cdda2c0c160a7e2d0a74a125fdfc412fb448d4212c510e7db959f5293a485"), looks := true }, kinds := [], alts := [], laidByText := true, laidKinds := [.data, .data, .data, .data, .sentinel, .sentinel, .pinned, .pinned], laidTests := true, laidLooks := .later }
def SchemaLooksUptoCardSaid : Prop := Claim7.holds Tryz.pinned (.plain (OpenSpec.upto schemaLooksSpec)) schemaLooksUptoCard
end Rows
end Go.Proofs.YtoelhiccofpgfaaGreatDoor
