/-
  DERIVED. GIVEN WITH THE SEED: THE CARDS: each row of YtnikolglippfmaaGreatDoorRows.lean that lists a variable, with what it lists TIED to the program's text (the seventh form; the later family's looks); each row that meets fmt, with fmt's text TOLD by the authors' own Lean function (tested against real Go, not proved from fmt's source: count such statements apart). THE CARD IS WHAT COUNTS. Prove the row's statement (the work); the ties are given (YtnikolglippfmaaGreatDoorTie.lean); close each card by the builder's one call (the guide's Derived/Test/ToyasCard.lean, 'card_holds'). Laid BY PROGRAM, IN A SANDBOX (cutbox-door.mjs). By AI agents, Wed Nov 11 2026. No macro, syntax, notation, axiom, sorry.
-/
import Derived.Test.YtnikolglippfmaaGreatDoorRows
import GoSem.ClaimSeven
namespace Go.Proofs.YtnikolglippfmaaGreatDoor
namespace Rows

/-- THE TIED CARD OF 'identitylaw07.SchemaNormals'. -/
def schemaNormalsCard : Claim7 := { stood := { row := schemaNormalsRow, standIns := [], harness := (true, "882577c4468c8e46ce98a87d67ae81ed9dd5f7bbfedfe12ef456d4b6a1d0b6e6"), looks := true }, kinds := [], alts := [], laidByText := true, laidKinds := [.data, .data, .data, .data, .sentinel, .sentinel, .pinned, .pinned], laidTests := true, laidLooks := .later }
def SchemaNormalsCardSaid : Prop := Claim7.holds Tryz.pinned (.plain (OpenSpec.ofChange schemaNormalsSpec)) schemaNormalsCard

/-- THE TIED CARD OF 'identitylaw07.SchemaValids'. -/
def schemaValidsCard : Claim7 := { stood := { row := schemaValidsRow, standIns := [], harness := (true, "882577c4468c8e46ce98a87d67ae81ed9dd5f7bbfedfe12ef456d4b6a1d0b6e6"), looks := true }, kinds := [], alts := [], laidByText := true, laidKinds := [.data, .data, .data, .data, .sentinel, .sentinel, .pinned, .pinned], laidTests := true, laidLooks := .later }
def SchemaValidsCardSaid : Prop := Claim7.holds Tryz.pinned (.plain (OpenSpec.ofChange schemaValidsSpec)) schemaValidsCard

/-- THE TIED CARD OF 'identitylaw07.SchemaTexts'. -/
def schemaTextsCard : Claim7 := { stood := { row := schemaTextsRow, standIns := [], harness := (true, "882577c4468c8e46ce98a87d67ae81ed9dd5f7bbfedfe12ef456d4b6a1d0b6e6"), looks := true }, kinds := [], alts := [], laidByText := true, laidKinds := [.data, .data, .data, .data, .sentinel, .sentinel, .pinned, .pinned], laidTests := true, laidLooks := .later }
def SchemaTextsCardSaid : Prop := Claim7.holds Tryz.pinned (.plain (OpenSpec.ofChange schemaTextsSpec)) schemaTextsCard

/-- THE TIED CARD OF 'identitylaw07.SchemaReturns'. -/
def schemaReturnsCard : Claim7 := { stood := { row := schemaReturnsRow, standIns := [], harness := (true, "882577c4468c8e46ce98a87d67ae81ed9dd5f7bbfedfe12ef456d4b6a1d0b6e6"), looks := true }, kinds := [], alts := [], laidByText := true, laidKinds := [.data, .data, .data, .data, .sentinel, .sentinel, .pinned, .pinned], laidTests := true, laidLooks := .later }
def SchemaReturnsCardSaid : Prop := Claim7.holds Tryz.pinned (.plain (OpenSpec.ofChange schemaReturnsSpec)) schemaReturnsCard

/-- THE TIED CARD OF 'identitylaw07.SchemaInherits'. -/
def schemaInheritsCard : Claim7 := { stood := { row := schemaInheritsRow, standIns := [], harness := (true, "882577c4468c8e46ce98a87d67ae81ed9dd5f7bbfedfe12ef456d4b6a1d0b6e6"), looks := true }, kinds := [], alts := [], laidByText := true, laidKinds := [.data, .data, .data, .data, .sentinel, .sentinel, .pinned, .pinned], laidTests := true, laidLooks := .later }
def SchemaInheritsCardSaid : Prop := Claim7.holds Tryz.pinned (.plain (OpenSpec.ofChange schemaInheritsSpec)) schemaInheritsCard

/-- THE SECOND FORM's CARD OF 'identitylaw07.SchemaNormals'. -/
def schemaNormalsUptoCard : Claim7 := { stood := { row := schemaNormalsUptoRow, standIns := [], harness := (true, "882577c4468c8e46ce98a87d67ae81ed9dd5f7bbfedfe12ef456d4b6a1d0b6e6"), looks := true }, kinds := [], alts := [], laidByText := true, laidKinds := [.data, .data, .data, .data, .sentinel, .sentinel, .pinned, .pinned], laidTests := true, laidLooks := .later }
def SchemaNormalsUptoCardSaid : Prop := Claim7.holds Tryz.pinned (.plain (OpenSpec.upto schemaNormalsSpec)) schemaNormalsUptoCard

/-- THE SECOND FORM's CARD OF 'identitylaw07.SchemaValids'. -/
def schemaValidsUptoCard : Claim7 := { stood := { row := schemaValidsUptoRow, standIns := [], harness := (true, "882577c4468c8e46ce98a87d67ae81ed9dd5f7bbfedfe12ef456d4b6a1d0b6e6"), looks := true }, kinds := [], alts := [], laidByText := true, laidKinds := [.data, .data, .data, .data, .sentinel, .sentinel, .pinned, .pinned], laidTests := true, laidLooks := .later }
def SchemaValidsUptoCardSaid : Prop := Claim7.holds Tryz.pinned (.plain (OpenSpec.upto schemaValidsSpec)) schemaValidsUptoCard

/-- THE SECOND FORM's CARD OF 'identitylaw07.SchemaTexts'. -/
def schemaTextsUptoCard : Claim7 := { stood := { row := schemaTextsUptoRow, standIns := [], harness := (true, "882577c4468c8e46ce98a87d67ae81ed9dd5f7bbfedfe12ef456d4b6a1d0b6e6"), looks := true }, kinds := [], alts := [], laidByText := true, laidKinds := [.data, .data, .data, .data, .sentinel, .sentinel, .pinned, .pinned], laidTests := true, laidLooks := .later }
def SchemaTextsUptoCardSaid : Prop := Claim7.holds Tryz.pinned (.plain (OpenSpec.upto schemaTextsSpec)) schemaTextsUptoCard

/-- THE SECOND FORM's CARD OF 'identitylaw07.SchemaReturns'. -/
def schemaReturnsUptoCard : Claim7 := { stood := { row := schemaReturnsUptoRow, standIns := [], harness := (true, "882577c4468c8e46ce98a87d67ae81ed9dd5f7bbfedfe12ef456d4b6a1d0b6e6"), looks := true }, kinds := [], alts := [], laidByText := true, laidKinds := [.data, .data, .data, .data, .sentinel, .sentinel, .pinned, .pinned], laidTests := true, laidLooks := .later }
def SchemaReturnsUptoCardSaid : Prop := Claim7.holds Tryz.pinned (.plain (OpenSpec.upto schemaReturnsSpec)) schemaReturnsUptoCard

/-- THE SECOND FORM's CARD OF 'identitylaw07.SchemaInherits'. -/
def schemaInheritsUptoCard : Claim7 := { stood := { row := schemaInheritsUptoRow, standIns := [], harness := (true, "882577c4468c8e46ce98a87d67ae81ed9dd5f7bbfedfe12ef456d4b6a1d0b6e6"), looks := true }, kinds := [], alts := [], laidByText := true, laidKinds := [.data, .data, .data, .data, .sentinel, .sentinel, .pinned, .pinned], laidTests := true, laidLooks := .later }
def SchemaInheritsUptoCardSaid : Prop := Claim7.holds Tryz.pinned (.plain (OpenSpec.upto schemaInheritsSpec)) schemaInheritsUptoCard
end Rows
end Go.Proofs.YtnikolglippfmaaGreatDoor
