/- Part 31 of the proof that a class requires and allows what its superclass requires and allows, and a valid entry has all that its classes require, and stays valid with its attribute names in upper case: the package variables hold what the program lays; nothing else is asked: the package variables hold what the program lays; nothing else is asked. -/
import Derived.Test.YtnikolglippfmaaGreatDoorInh02
import Derived.Test.YtnikolglippfmaaGreatDoorShelf
import Derived.Shelf.SlSortCmp.NoneTotal
/- slices.SortFunc at attributes: laid in the shelf's text (the line 'shelf_lay_g SlLaysF0.n6 Slsf 6 at A NUMBER as A.sortA' is added there by hand: NOTES.md). -/
