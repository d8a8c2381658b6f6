/- Part 13 of the proof that the statements EntryChecks, EntryStable and EntryTexts of identitylaw08 return true at every argument: the package variables hold what the program lays; nothing else is asked. -/
import Derived.Test.YtoopoglkeeoamaaGreatDoorEca05
import Derived.Test.YtoopoglkeeoamaaGreatDoorEca07
import Derived.Deep.DeepCutAuto
set_option linter.unusedVariables false
set_option linter.unusedSimpArgs false
/- Walks of the reference of layer 7: class. -/
namespace Go.Proofs.YtoopoglkeeoamaaGreatDoor
open Go.RowKit Go.Sort
open Idn (L B Bs drop_L take_L size_L)

end Go.Proofs.YtoopoglkeeoamaaGreatDoor
/- Walks of the reference of layer 7: class, the last way. -/
namespace Go.Proofs.YtoopoglkeeoamaaGreatDoor
open Go.RowKit Go.Sort
open Idn (L B Bs drop_L take_L size_L)

end Go.Proofs.YtoopoglkeeoamaaGreatDoor
/- Walks of the reference of layer 7: class joined, Check. -/
namespace Go.Proofs.YtoopoglkeeoamaaGreatDoor
open Go.RowKit Go.Sort
open Idn (L B Bs drop_L take_L size_L)

end Go.Proofs.YtoopoglkeeoamaaGreatDoor
