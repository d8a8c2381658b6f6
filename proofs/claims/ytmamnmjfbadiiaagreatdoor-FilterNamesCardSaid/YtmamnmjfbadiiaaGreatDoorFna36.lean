/- Part 36 of the proof that identitylaw09.FilterNames returns true at all filters: the package variables hold what the program lays; nothing else is asked. -/
import Derived.Test.YtmamnmjfbadiiaaGreatDoorFna05
import Derived.Test.YtmamnmjfbadiiaaGreatDoorFna08
set_option linter.unusedVariables false
set_option linter.unusedSimpArgs false
/- fold.Lower, with what it draws; worlds behind draws and new blocks. -/
namespace Go.Proofs.YtmamnmjfbadiiaaGreatDoor
open Go.RowKit Go.Sort
open Idn (L B Bs drop_L take_L size_L)

theorem below_drewn (w : World) (d : Nat) (os : Array Obj) : Below w.heap.size w (grow (w.drewN d) os) := below_regrown w (w.drawn + d) os
end Go.Proofs.YtmamnmjfbadiiaaGreatDoor
