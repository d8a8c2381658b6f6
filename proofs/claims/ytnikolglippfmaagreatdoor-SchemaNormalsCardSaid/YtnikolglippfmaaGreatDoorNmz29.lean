/- Part 29 of the proof that Normal and Compare return the specified results: the package variables hold what the program lays; nothing else is asked. -/
import Derived.Test.YtnikolglippfmaaGreatDoorNmz02
import Derived.Test.YtnikolglippfmaaGreatDoorShelf
import Derived.Shelf.SlSortCmp.NoneTotal
/- slices.SortFunc at attributes: laid in the shelf's text (the line 'shelf_lay_g SlLaysF0.n6 Slsf 6 at A NUMBER as A.sortA' is added there by hand: NOTES.md). -/
