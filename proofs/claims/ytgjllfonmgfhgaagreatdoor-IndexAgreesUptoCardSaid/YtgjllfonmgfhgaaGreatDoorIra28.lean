/- Part 28 of the proof that laws of identitylaw11 return true at every argument within the bound: the package variables hold what the program lays; nothing else is asked. -/
import Derived.Test.YtgjllfonmgfhgaaGreatDoorIra02
import Derived.Test.YtgjllfonmgfhgaaGreatDoorIra05
import Derived.Shelf.SlSortCmp.NoneTotal
set_option linter.unusedVariables false
set_option linter.unusedSimpArgs false
/- slices.SortFunc at attributes: its laying stands in the text of the shelf (relay2.sh adds it). -/
