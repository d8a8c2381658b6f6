/- Part 32 of the proof that identitylaw11.IndexNil returns true at every entry, name and filter: the package variables hold what the program lays; nothing else is asked. -/
import Derived.Test.YtgjllfonmgfhgaaGreatDoorInl22
import Derived.Test.YtgjllfonmgfhgaaGreatDoorInl29
import Derived.Test.YtgjllfonmgfhgaaGreatDoorInl30
set_option linter.unusedVariables false
set_option linter.unusedSimpArgs false
/- schema: readType, readNames, readClass. -/
namespace Go.Proofs.YtgjllfonmgfhgaaGreatDoor
open Go.RowKit Go.Sort
open Idn (L B Bs drop_L take_L size_L)
end Go.Proofs.YtgjllfonmgfhgaaGreatDoor
