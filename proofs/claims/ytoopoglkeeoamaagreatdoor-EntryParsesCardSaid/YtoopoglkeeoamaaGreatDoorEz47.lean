/- Part 47 of the proof that identitylaw08.EntryParses and EntryReturns return true: the package variables hold what the program lays; nothing else is asked. -/
import Derived.Test.YtoopoglkeeoamaaGreatDoorEz14
import Derived.Test.YtoopoglkeeoamaaGreatDoorEz20
import Derived.Test.YtoopoglkeeoamaaGreatDoorEz24
import Derived.Test.YtoopoglkeeoamaaGreatDoorEz27
import Derived.Test.YtoopoglkeeoamaaGreatDoorEz30
import Derived.Test.YtoopoglkeeoamaaGreatDoorEz37
import Derived.Test.YtoopoglkeeoamaaGreatDoorEz45
import Derived.Test.YtoopoglkeeoamaaGreatDoorEz46
set_option linter.unusedVariables false
set_option linter.unusedSimpArgs false
/- identityref02: Int. -/
namespace Go.Proofs.YtoopoglkeeoamaaGreatDoor
open Go.RowKit Go.Sort
open Idn (L B Bs drop_L take_L size_L)
end Go.Proofs.YtoopoglkeeoamaaGreatDoor
/- identityref07: number. -/
namespace Go.Proofs.YtoopoglkeeoamaaGreatDoor
open Go.RowKit Go.Sort
open Idn (L B Bs drop_L take_L size_L)
end Go.Proofs.YtoopoglkeeoamaaGreatDoor
/- identityref07: form. -/
namespace Go.Proofs.YtoopoglkeeoamaaGreatDoor
open Go.RowKit Go.Sort
open Idn (L B Bs drop_L take_L size_L)
end Go.Proofs.YtoopoglkeeoamaaGreatDoor
/- identityref07: Normal, Compare. -/
namespace Go.Proofs.YtoopoglkeeoamaaGreatDoor
open Go.RowKit Go.Sort
open Idn (L B Bs drop_L take_L size_L)
end Go.Proofs.YtoopoglkeeoamaaGreatDoor
/- Plain laws of Valid by the reference. -/
namespace Go.Proofs.YtoopoglkeeoamaaGreatDoor
open Go.RowKit Go.Sort
open Idn (L B Bs)
end Go.Proofs.YtoopoglkeeoamaaGreatDoor
/- identityref07: Valid. -/
namespace Go.Proofs.YtoopoglkeeoamaaGreatDoor
open Go.RowKit Go.Sort
open Idn (L B Bs drop_L take_L size_L)
end Go.Proofs.YtoopoglkeeoamaaGreatDoor
