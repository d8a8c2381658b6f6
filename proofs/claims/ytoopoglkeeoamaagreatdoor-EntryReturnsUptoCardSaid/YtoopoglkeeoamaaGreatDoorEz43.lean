/- Part 43 of the proof that identitylaw08.EntryParses and EntryReturns return true: the package variables hold what the program lays; nothing else is asked. -/
import Derived.Test.YtoopoglkeeoamaaGreatDoorEz31
import Derived.Test.YtoopoglkeeoamaaGreatDoorEz34
import Derived.Test.YtoopoglkeeoamaaGreatDoorEz42
set_option linter.unusedVariables false
set_option linter.unusedSimpArgs false
/- What the rows of identitylaw08 share: entries, strings handed over. -/
namespace Go.Proofs.YtoopoglkeeoamaaGreatDoor
open Go.RowKit Go.Sort Go.ChangeShapes Go.WideShapes Go.ChangeAt
open Idn (L B Bs)
section
variable {H : Type} {enc : TypeId × Value → H} {W : World}
end
end Go.Proofs.YtoopoglkeeoamaaGreatDoor
