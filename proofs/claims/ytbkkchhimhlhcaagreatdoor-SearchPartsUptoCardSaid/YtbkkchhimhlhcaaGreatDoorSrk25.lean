/- Part 25 of the proof that identitylaw12.SearchChecks returns true for every data that it may be called with: proof: the package variables hold what the program lays; nothing else is asked. -/
import Derived.Test.YtbkkchhimhlhcaaGreatDoorSrk02
import Derived.Test.YtbkkchhimhlhcaaGreatDoorSrk06
import Derived.Shelf.SlSortCmp.NoneTotal
set_option linter.unusedVariables false
set_option linter.unusedSimpArgs false
set_option maxRecDepth 100000
set_option maxHeartbeats 16000000
/- slices.SortFunc at attributes: its laying stands in the text of the shelf (relay2.sh adds it). -/
