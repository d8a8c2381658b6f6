/- Part 30 of the proof that what Parse reads of a class's description is what the text says, and what it writes Parse reads back: the package variables hold what the program lays; nothing else is asked. -/
import Derived.Test.YtnikolglippfmaaGreatDoorTxs02
import Derived.Test.YtnikolglippfmaaGreatDoorShelf
import Derived.Shelf.SlSortCmp.NoneTotal
/- slices.SortFunc at attributes: laid in the shelf's text (the line 'shelf_lay_g SlLaysF0.n6 Slsf 6 at A NUMBER as A.sortA' is added there by hand: NOTES.md). -/
