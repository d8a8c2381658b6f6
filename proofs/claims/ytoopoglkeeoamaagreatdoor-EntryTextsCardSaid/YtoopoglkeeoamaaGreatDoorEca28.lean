/- Part 28 of the proof that the statements EntryChecks, EntryStable and EntryTexts of identitylaw08 return true at every argument: the package variables hold what the program lays; nothing else is asked. -/
import Derived.Test.YtoopoglkeeoamaaGreatDoorEca02
import Derived.Test.YtoopoglkeeoamaaGreatDoorShelf
import Derived.Shelf.SlSortCmp.NoneTotal
set_option linter.unusedVariables false
set_option linter.unusedSimpArgs false
/- slices.SortFunc at attributes: laid in the shelf's text (the line 'shelf_lay_g SlLaysF0.n6 Slsf 6 at A NUMBER as A.sortA' is added there by hand: NOTES.md). -/
