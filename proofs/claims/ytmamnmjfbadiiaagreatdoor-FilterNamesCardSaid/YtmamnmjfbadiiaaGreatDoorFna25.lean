/- Part 25 of the proof that identitylaw09.FilterNames returns true at all filters: the package variables hold what the program lays; nothing else is asked. -/
import Derived.Test.YtmamnmjfbadiiaaGreatDoorFna04
import Derived.Test.YtmamnmjfbadiiaaGreatDoorFna18
import Derived.Sort.Walk0
import Derived.Lib.Hide
set_option linter.unusedVariables false
set_option linter.unusedSimpArgs false
/- identityref06: has, Insert; identityref07: has. -/
namespace Go.Proofs.YtmamnmjfbadiiaaGreatDoor
open Go.RowKit Go.Sort
open Idn (L B Bs drop_L take_L size_L)
end Go.Proofs.YtmamnmjfbadiiaaGreatDoor
