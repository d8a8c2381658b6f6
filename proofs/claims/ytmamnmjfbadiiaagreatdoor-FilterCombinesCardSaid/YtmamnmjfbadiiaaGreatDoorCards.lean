/-
  DERIVED. GIVEN WITH THE SEED: THE CARDS: each row of YtmamnmjfbadiiaaGreatDoorRows.lean that lists a variable, with what it lists TIED to the program's text (the seventh form; the later family's looks); each row that meets fmt, with fmt's text TOLD by the authors' own Lean function (tested against real Go, not proved from fmt's source: count such statements apart). THE CARD IS WHAT COUNTS. Prove the row's statement (the work); the ties are given (YtmamnmjfbadiiaaGreatDoorTie.lean); close each card by the builder's one call (the guide's Derived/Test/ToyasCard.lean, 'card_holds'). Laid BY PROGRAM, IN A SANDBOX (cutbox-door.mjs). By AI agents, Wed Nov 11 2026. No macro, syntax, notation, axiom, sorry.
-/
import Derived.Test.YtmamnmjfbadiiaaGreatDoorRows
import GoSem.ClaimSeven
namespace Go.Proofs.YtmamnmjfbadiiaaGreatDoor
namespace Rows

/-- THE TIED CARD OF 'identitylaw09.FilterChecks'. -/
def filterChecksCard : Claim7 := { stood := { row := filterChecksRow, standIns := [], harness := (true, "c963de43ea82cbb31039d0c74e532abb20e045b7983124a58622fb4dc17ec007"), looks := true }, kinds := [], alts := [], laidByText := true, laidKinds := [.data, .data, .data, .data, .sentinel, .sentinel, .pinned, .pinned], laidTests := true, laidLooks := .later }
def FilterChecksCardSaid : Prop := Claim7.holds Tryz.pinned (.plain (OpenSpec.ofChange filterChecksSpec)) filterChecksCard

/-- THE TIED CARD OF 'identitylaw09.FilterTexts'. -/
def filterTextsCard : Claim7 := { stood := { row := filterTextsRow, standIns := [], harness := (true, "c963de43ea82cbb31039d0c74e532abb20e045b7983124a58622fb4dc17ec007"), looks := true }, kinds := [], alts := [], laidByText := true, laidKinds := [.data, .data, .data, .data, .sentinel, .sentinel, .pinned, .pinned], laidTests := true, laidLooks := .later }
def FilterTextsCardSaid : Prop := Claim7.holds Tryz.pinned (.plain (OpenSpec.ofChange filterTextsSpec)) filterTextsCard

/-- THE TIED CARD OF 'identitylaw09.FilterMatches'. -/
def filterMatchesCard : Claim7 := { stood := { row := filterMatchesRow, standIns := [], harness := (true, "c963de43ea82cbb31039d0c74e532abb20e045b7983124a58622fb4dc17ec007"), looks := true }, kinds := [], alts := [], laidByText := true, laidKinds := [.data, .data, .data, .data, .sentinel, .sentinel, .pinned, .pinned], laidTests := true, laidLooks := .later }
def FilterMatchesCardSaid : Prop := Claim7.holds Tryz.pinned (.plain (OpenSpec.ofChange filterMatchesSpec)) filterMatchesCard

/-- THE TIED CARD OF 'identitylaw09.FilterNames'. -/
def filterNamesCard : Claim7 := { stood := { row := filterNamesRow, standIns := [], harness := (true, "c963de43ea82cbb31039d0c74e532abb20e045b7983124a58622fb4dc17ec007"), looks := true }, kinds := [], alts := [], laidByText := true, laidKinds := [.data, .data, .data, .data, .sentinel, .sentinel, .pinned, .pinned], laidTests := true, laidLooks := .later }
def FilterNamesCardSaid : Prop := Claim7.holds Tryz.pinned (.plain (OpenSpec.ofChange filterNamesSpec)) filterNamesCard

/-- THE TIED CARD OF 'identitylaw09.FilterSimplifies'. -/
def filterSimplifiesCard : Claim7 := { stood := { row := filterSimplifiesRow, standIns := [], harness := (true, "c963de43ea82cbb31039d0c74e532abb20e045b7983124a58622fb4dc17ec007"), looks := true }, kinds := [], alts := [], laidByText := true, laidKinds := [.data, .data, .data, .data, .sentinel, .sentinel, .pinned, .pinned], laidTests := true, laidLooks := .later }
def FilterSimplifiesCardSaid : Prop := Claim7.holds Tryz.pinned (.plain (OpenSpec.ofChange filterSimplifiesSpec)) filterSimplifiesCard

/-- THE TIED CARD OF 'identitylaw09.FilterNegates'. -/
def filterNegatesCard : Claim7 := { stood := { row := filterNegatesRow, standIns := [], harness := (true, "c963de43ea82cbb31039d0c74e532abb20e045b7983124a58622fb4dc17ec007"), looks := true }, kinds := [], alts := [], laidByText := true, laidKinds := [.data, .data, .data, .data, .sentinel, .sentinel, .pinned, .pinned], laidTests := true, laidLooks := .later }
def FilterNegatesCardSaid : Prop := Claim7.holds Tryz.pinned (.plain (OpenSpec.ofChange filterNegatesSpec)) filterNegatesCard

/-- THE TIED CARD OF 'identitylaw09.FilterCombines'. -/
def filterCombinesCard : Claim7 := { stood := { row := filterCombinesRow, standIns := [], harness := (true, "c963de43ea82cbb31039d0c74e532abb20e045b7983124a58622fb4dc17ec007"), looks := true }, kinds := [], alts := [], laidByText := true, laidKinds := [.data, .data, .data, .data, .sentinel, .sentinel, .pinned, .pinned], laidTests := true, laidLooks := .later }
def FilterCombinesCardSaid : Prop := Claim7.holds Tryz.pinned (.plain (OpenSpec.ofChange filterCombinesSpec)) filterCombinesCard

/-- THE SECOND FORM's CARD OF 'identitylaw09.FilterChecks'. -/
def filterChecksUptoCard : Claim7 := { stood := { row := filterChecksUptoRow, standIns := [], harness := (true, "c963de43ea82cbb31039d0c74e532abb20e045b7983124a58622fb4dc17ec007"), looks := true }, kinds := [], alts := [], laidByText := true, laidKinds := [.data, .data, .data, .data, .sentinel, .sentinel, .pinned, .pinned], laidTests := true, laidLooks := .later }
def FilterChecksUptoCardSaid : Prop := Claim7.holds Tryz.pinned (.plain (OpenSpec.upto filterChecksSpec)) filterChecksUptoCard

/-- THE SECOND FORM's CARD OF 'identitylaw09.FilterTexts'. -/
def filterTextsUptoCard : Claim7 := { stood := { row := filterTextsUptoRow, standIns := [], harness := (true, "c963de43ea82cbb31039d0c74e532abb20e045b7983124a58622fb4dc17ec007"), looks := true }, kinds := [], alts := [], laidByText := true, laidKinds := [.data, .data, .data, .data, .sentinel, .sentinel, .pinned, .pinned], laidTests := true, laidLooks := .later }
def FilterTextsUptoCardSaid : Prop := Claim7.holds Tryz.pinned (.plain (OpenSpec.upto filterTextsSpec)) filterTextsUptoCard

/-- THE SECOND FORM's CARD OF 'identitylaw09.FilterMatches'. -/
def filterMatchesUptoCard : Claim7 := { stood := { row := filterMatchesUptoRow, standIns := [], harness := (true, "c963de43ea82cbb31039d0c74e532abb20e045b7983124a58622fb4dc17ec007"), looks := true }, kinds := [], alts := [], laidByText := true, laidKinds := [.data, .data, .data, .data, .sentinel, .sentinel, .pinned, .pinned], laidTests := true, laidLooks := .later }
def FilterMatchesUptoCardSaid : Prop := Claim7.holds Tryz.pinned (.plain (OpenSpec.upto filterMatchesSpec)) filterMatchesUptoCard

/-- THE SECOND FORM's CARD OF 'identitylaw09.FilterNames'. -/
def filterNamesUptoCard : Claim7 := { stood := { row := filterNamesUptoRow, standIns := [], harness := (true, "c963de43ea82cbb31039d0c74e532abb20e045b7983124a58622fb4dc17ec007"), looks := true }, kinds := [], alts := [], laidByText := true, laidKinds := [.data, .data, .data, .data, .sentinel, .sentinel, .pinned, .pinned], laidTests := true, laidLooks := .later }
def FilterNamesUptoCardSaid : Prop := Claim7.holds Tryz.pinned (.plain (OpenSpec.upto filterNamesSpec)) filterNamesUptoCard

/-- THE SECOND FORM's CARD OF 'identitylaw09.FilterSimplifies'. -/
def filterSimplifiesUptoCard : Claim7 := { stood := { row := filterSimplifiesUptoRow, standIns := [], harness := (true, "c963de43ea82cbb31039d0c74e532abb20e045b7983124a58622fb4dc17ec007"), looks := true }, kinds := [], alts := [], laidByText := true, laidKinds := [.data, .data, .data, .data, .sentinel, .sentinel, .pinned, .pinned], laidTests := true, laidLooks := .later }
def FilterSimplifiesUptoCardSaid : Prop := Claim7.holds Tryz.pinned (.plain (OpenSpec.upto filterSimplifiesSpec)) filterSimplifiesUptoCard

/-- THE SECOND FORM's CARD OF 'identitylaw09.FilterNegates'. -/
def filterNegatesUptoCard : Claim7 := { stood := { row := filterNegatesUptoRow, standIns := [], harness := (true, "c963de43ea82cbb31039d0c74e532abb20e045b7983124a58622fb4dc17ec007"), looks := true }, kinds := [], alts := [], laidByText := true, laidKinds := [.data, .data, .data, .data, .sentinel, .sentinel, .pinned, .pinned], laidTests := true, laidLooks := .later }
def FilterNegatesUptoCardSaid : Prop := Claim7.holds Tryz.pinned (.plain (OpenSpec.upto filterNegatesSpec)) filterNegatesUptoCard

/-- THE SECOND FORM's CARD OF 'identitylaw09.FilterCombines'. -/
def filterCombinesUptoCard : Claim7 := { stood := { row := filterCombinesUptoRow, standIns := [], harness := (true, "c963de43ea82cbb31039d0c74e532abb20e045b7983124a58622fb4dc17ec007"), looks := true }, kinds := [], alts := [], laidByText := true, laidKinds := [.data, .data, .data, .data, .sentinel, .sentinel, .pinned, .pinned], laidTests := true, laidLooks := .later }
def FilterCombinesUptoCardSaid : Prop := Claim7.holds Tryz.pinned (.plain (OpenSpec.upto filterCombinesSpec)) filterCombinesUptoCard
end Rows
end Go.Proofs.YtmamnmjfbadiiaaGreatDoor
