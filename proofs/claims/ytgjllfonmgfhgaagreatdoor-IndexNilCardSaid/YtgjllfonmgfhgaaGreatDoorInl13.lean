/- Part 13 of the proof that identitylaw11.IndexNil returns true at every entry, name and filter: the package variables hold what the program lays; nothing else is asked. -/
import Derived.Test.YtgjllfonmgfhgaaGreatDoorInl05
import Derived.Test.YtgjllfonmgfhgaaGreatDoorInl08
import Derived.Deep.DeepCutAuto
set_option linter.unusedVariables false
set_option linter.unusedSimpArgs false
/- Walks of the reference of layer 7: class. -/
namespace Go.Proofs.YtgjllfonmgfhgaaGreatDoor
open Go.RowKit Go.Sort
open Idn (L B Bs drop_L take_L size_L)

end Go.Proofs.YtgjllfonmgfhgaaGreatDoor
/- Walks of the reference of layer 7: class, the last way. -/
namespace Go.Proofs.YtgjllfonmgfhgaaGreatDoor
open Go.RowKit Go.Sort
open Idn (L B Bs drop_L take_L size_L)

end Go.Proofs.YtgjllfonmgfhgaaGreatDoor
/- Walks of the reference of layer 7: class joined, Check. -/
namespace Go.Proofs.YtgjllfonmgfhgaaGreatDoor
open Go.RowKit Go.Sort
open Idn (L B Bs drop_L take_L size_L)

end Go.Proofs.YtgjllfonmgfhgaaGreatDoor
