/- Part 31 of the proof that identitylaw11.IndexComplete returns true at every schema, list of names and case within the bound: the package variables hold what the program lays; nothing else is asked. -/
import Derived.Test.YtgjllfonmgfhgaaGreatDoorIct18
import Derived.Test.YtgjllfonmgfhgaaGreatDoorIct28
import Derived.Test.YtgjllfonmgfhgaaGreatDoorIct29
set_option linter.unusedVariables false
set_option linter.unusedSimpArgs false
/- schema: readType, readNames, readClass. -/
namespace Go.Proofs.YtgjllfonmgfhgaaGreatDoor
open Go.RowKit Go.Sort
open Idn (L B Bs drop_L take_L size_L)
end Go.Proofs.YtgjllfonmgfhgaaGreatDoor
