/- Part 23 of the proof that the statements of identitylaw09 on matching hold at all arguments: the package variables hold what the program lays; nothing else is asked. -/
import Derived.Test.YtmamnmjfbadiiaaGreatDoorFz02
import Derived.Test.YtmamnmjfbadiiaaGreatDoorFz05
set_option linter.unusedVariables false
set_option linter.unusedSimpArgs false
set_option maxRecDepth 100000
set_option maxHeartbeats 16000000
/- slices.SortFunc at attributes: laid in the shelf's text (the line 'shelf_lay_g SlLaysF0.n6 Slsf 6 at A NUMBER as A.sortA' is added there by hand: NOTES.md). -/
