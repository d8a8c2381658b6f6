/- Part 28 of the proof that identitylaw09.FilterNames returns true at all filters: the package variables hold what the program lays; nothing else is asked. -/
import Derived.Test.YtmamnmjfbadiiaaGreatDoorFna14
import Derived.Test.YtmamnmjfbadiiaaGreatDoorFna16
set_option linter.unusedVariables false
set_option linter.unusedSimpArgs false
/- schema: Parse at the chapter's example (second part). -/
namespace Go.Proofs.YtmamnmjfbadiiaaGreatDoor
open Go.RowKit Go.Sort
open Idn (L B Bs drop_L take_L size_L)

end Go.Proofs.YtmamnmjfbadiiaaGreatDoor
