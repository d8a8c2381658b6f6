/- Part 29 of the proof that identitylaw08.EntryApplies returns true: the package variables hold what the program lays; nothing else is asked. -/
import Derived.Test.YtoopoglkeeoamaaGreatDoorEap02
import Derived.Test.YtoopoglkeeoamaaGreatDoorEap06
set_option linter.unusedVariables false
set_option linter.unusedSimpArgs false
set_option maxRecDepth 100000
set_option maxHeartbeats 8000000
/- slices.SortFunc at attributes: laid in the shelf's text (the line 'shelf_lay_g SlLaysF0.n6 Slsf 6 at A NUMBER as A.sortA' is added there by hand: NOTES.md). -/
