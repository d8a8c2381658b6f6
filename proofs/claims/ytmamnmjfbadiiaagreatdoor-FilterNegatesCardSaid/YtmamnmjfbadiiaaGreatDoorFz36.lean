/- Part 36 of the proof that the statements of identitylaw09 on matching hold at all arguments: the package variables hold what the program lays; nothing else is asked. -/
import Derived.Test.YtmamnmjfbadiiaaGreatDoorFz04
import Derived.Test.YtmamnmjfbadiiaaGreatDoorFz07
set_option linter.unusedVariables false
set_option linter.unusedSimpArgs false
set_option maxRecDepth 100000
set_option maxHeartbeats 16000000
/- fold.Lower, with what it draws; worlds behind draws and new blocks. -/
namespace Go.Proofs.YtmamnmjfbadiiaaGreatDoor
open Go.RowKit Go.Sort
open Idn (L B Bs drop_L take_L size_L)
theorem below_drewn (w : World) (d : Nat) (os : Array Obj) : Below w.heap.size w (grow (w.drewN d) os) := below_regrown w (w.drawn + d) os
end Go.Proofs.YtmamnmjfbadiiaaGreatDoor
