/- Part 38 of the proof that laws of identitylaw11 return true at every argument within the bound: the package variables hold what the program lays; nothing else is asked. -/
import Derived.Test.YtgjllfonmgfhgaaGreatDoorIcp31
import Derived.Test.YtgjllfonmgfhgaaGreatDoorIcp37
set_option linter.unusedVariables false
set_option linter.unusedSimpArgs false
set_option maxRecDepth 100000
set_option maxHeartbeats 16000000
/- A filter handed over: what a trodden value of api.Filter reads as. -/
namespace Go.Proofs.YtgjllfonmgfhgaaGreatDoor
open Go.RowKit Go.Sort Go.ChangeShapes Go.WideShapes Go.ChangeAt
open Idn (L B Bs drop_L take_L size_L)
section
variable {H : Type} {enc : TypeId × Value → H} {W : World}
theorem cellsOf_Flt : Tryz.prog.cellsOf 56 = 5 := by kernel_rfl
theorem cellsOf_kind : Tryz.prog.cellsOf 53 = 1 := by kernel_rfl
theorem cellsOf_flts : Tryz.prog.cellsOf 54 = 1 := by kernel_rfl
end
end Go.Proofs.YtgjllfonmgfhgaaGreatDoor
