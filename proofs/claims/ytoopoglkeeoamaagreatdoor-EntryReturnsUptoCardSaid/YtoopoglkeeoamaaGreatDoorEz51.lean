/- Part 51 of the proof that identitylaw08.EntryParses and EntryReturns return true: the package variables hold what the program lays; nothing else is asked. -/
import Derived.Test.YtoopoglkeeoamaaGreatDoorEz09
import Derived.Test.YtoopoglkeeoamaaGreatDoorEz42
set_option linter.unusedVariables false
set_option linter.unusedSimpArgs false
/- law08: EntryTexts, walked. -/
namespace Go.Proofs.YtoopoglkeeoamaaGreatDoor
open Go.RowKit Go.Sort
open Idn (L B Bs drop_L take_L size_L)
end Go.Proofs.YtoopoglkeeoamaaGreatDoor
