/- Part 27 of the proof that identitylaw09.FilterChecks returns true at every filter.: the package variables hold what the program lays; nothing else is asked. -/
import Derived.Test.YtmamnmjfbadiiaaGreatDoorFck04
import Derived.Test.YtmamnmjfbadiiaaGreatDoorFck18
import Derived.Sort.Walk0
import Derived.Lib.Hide
set_option linter.unusedVariables false
set_option linter.unusedSimpArgs false
/- identityref06: has, Insert; identityref07: has. -/
namespace Go.Proofs.YtmamnmjfbadiiaaGreatDoor
open Go.RowKit Go.Sort
open Idn (L B Bs drop_L take_L size_L)
end Go.Proofs.YtmamnmjfbadiiaaGreatDoor
