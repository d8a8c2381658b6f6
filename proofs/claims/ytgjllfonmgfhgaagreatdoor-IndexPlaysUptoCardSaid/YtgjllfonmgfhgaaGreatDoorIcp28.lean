/- Part 28 of the proof that laws of identitylaw11 return true at every argument within the bound: the package variables hold what the program lays; nothing else is asked. -/
import Derived.Test.YtgjllfonmgfhgaaGreatDoorIcp03
import Derived.Test.YtgjllfonmgfhgaaGreatDoorIcp06
import Derived.Shelf.SlSortCmp.NoneTotal
set_option linter.unusedVariables false
set_option linter.unusedSimpArgs false
set_option maxRecDepth 100000
set_option maxHeartbeats 16000000
/- slices.SortFunc at attributes: its laying stands in the text of the shelf (relay2.sh adds it). -/
