/- Part 26 of the proof that identitylaw11.IndexComplete returns true at every schema, list of names and case within the bound: the package variables hold what the program lays; nothing else is asked. -/
import Derived.Test.YtgjllfonmgfhgaaGreatDoorIct03
import Derived.Test.YtgjllfonmgfhgaaGreatDoorIct06
import Derived.Shelf.SlSortCmp.NoneTotal
set_option linter.unusedVariables false
set_option linter.unusedSimpArgs false
/- slices.SortFunc at attributes: its laying stands in the text of the shelf (relay2.sh adds it). -/
