/- Part 38 of the proof that laws of identitylaw11 return true at every argument within the bound: the package variables hold what the program lays; nothing else is asked. -/
import Derived.Test.YtgjllfonmgfhgaaGreatDoorIra30
import Derived.Test.YtgjllfonmgfhgaaGreatDoorIra37
set_option linter.unusedVariables false
set_option linter.unusedSimpArgs false
/- A filter handed over: what a trodden value of api.Filter reads as. -/
namespace Go.Proofs.YtgjllfonmgfhgaaGreatDoor
open Go.RowKit Go.Sort Go.ChangeShapes Go.WideShapes Go.ChangeAt
open Idn (L B Bs drop_L take_L size_L)
section
variable {H : Type} {enc : TypeId × Value → H} {W : World}
end
end Go.Proofs.YtgjllfonmgfhgaaGreatDoor
