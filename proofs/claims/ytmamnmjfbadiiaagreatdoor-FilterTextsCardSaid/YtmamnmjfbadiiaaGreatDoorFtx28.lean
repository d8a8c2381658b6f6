/- Part 28 of the proof that identitylaw09.FilterTexts returns true at every filter: the package variables hold what the program lays; nothing else is asked. -/
import Derived.Test.YtmamnmjfbadiiaaGreatDoorFtx14
import Derived.Test.YtmamnmjfbadiiaaGreatDoorFtx16
set_option linter.unusedVariables false
set_option linter.unusedSimpArgs false
/- schema: Parse at the chapter's example (second part). -/
namespace Go.Proofs.YtmamnmjfbadiiaaGreatDoor
open Go.RowKit Go.Sort
open Idn (L B Bs drop_L take_L size_L)

end Go.Proofs.YtmamnmjfbadiiaaGreatDoor
