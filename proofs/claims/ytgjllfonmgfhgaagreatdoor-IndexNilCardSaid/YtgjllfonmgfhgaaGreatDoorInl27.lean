/- Part 27 of the proof that identitylaw11.IndexNil returns true at every entry, name and filter: the package variables hold what the program lays; nothing else is asked. -/
import Derived.Test.YtgjllfonmgfhgaaGreatDoorInl02
import Derived.Test.YtgjllfonmgfhgaaGreatDoorInl06
import Derived.Shelf.SlSortCmp.NoneTotal
set_option linter.unusedVariables false
set_option linter.unusedSimpArgs false
/- slices.SortFunc at attributes: its laying stands in the text of the shelf (relay2.sh adds it). -/
