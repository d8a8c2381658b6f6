/- Part 42 of the proof that laws of identitylaw11 return true at every argument within the bound: the package variables hold what the program lays; nothing else is asked. -/
import Derived.Test.YtgjllfonmgfhgaaGreatDoorIcp19
import Derived.Test.YtgjllfonmgfhgaaGreatDoorIcp21
import Derived.Test.YtgjllfonmgfhgaaGreatDoorIcp29
set_option linter.unusedVariables false
set_option linter.unusedSimpArgs false
set_option maxRecDepth 100000
set_option maxHeartbeats 16000000
/- schema: readType, readNames, readClass. -/
namespace Go.Proofs.YtgjllfonmgfhgaaGreatDoor
open Go.RowKit Go.Sort
open Idn (L B Bs drop_L take_L size_L)
end Go.Proofs.YtgjllfonmgfhgaaGreatDoor
