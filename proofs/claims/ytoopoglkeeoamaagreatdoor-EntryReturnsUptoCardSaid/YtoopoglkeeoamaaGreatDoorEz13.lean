/- Part 13 of the proof that identitylaw08.EntryParses and EntryReturns return true: the package variables hold what the program lays; nothing else is asked. -/
import Derived.Test.YtoopoglkeeoamaaGreatDoorEz05
import Derived.Test.YtoopoglkeeoamaaGreatDoorEz08
import Derived.Deep.DeepCutAuto
set_option linter.unusedVariables false
set_option linter.unusedSimpArgs false
/- Walks of the reference of layer 7: class. -/
namespace Go.Proofs.YtoopoglkeeoamaaGreatDoor
open Go.RowKit Go.Sort
open Idn (L B Bs drop_L take_L size_L)

end Go.Proofs.YtoopoglkeeoamaaGreatDoor
/- Walks of the reference of layer 7: class, the last way. -/
namespace Go.Proofs.YtoopoglkeeoamaaGreatDoor
open Go.RowKit Go.Sort
open Idn (L B Bs drop_L take_L size_L)

end Go.Proofs.YtoopoglkeeoamaaGreatDoor
/- Walks of the reference of layer 7: class joined, Check. -/
namespace Go.Proofs.YtoopoglkeeoamaaGreatDoor
open Go.RowKit Go.Sort
open Idn (L B Bs drop_L take_L size_L)

end Go.Proofs.YtoopoglkeeoamaaGreatDoor
