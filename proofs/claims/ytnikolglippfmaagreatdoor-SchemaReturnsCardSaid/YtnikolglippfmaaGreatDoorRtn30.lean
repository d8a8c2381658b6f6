/- Part 30 of the proof that Parse of the text form of a schema is the schema, and Text of what Parse returns is the string: the package variables hold what the program lays; nothing else is asked. -/
import Derived.Test.YtnikolglippfmaaGreatDoorRtn02
import Derived.Test.YtnikolglippfmaaGreatDoorShelf
import Derived.Shelf.SlSortCmp.NoneTotal
/- slices.SortFunc at attributes: laid in the shelf's text (the line 'shelf_lay_g SlLaysF0.n6 Slsf 6 at A NUMBER as A.sortA' is added there by hand: NOTES.md). -/
