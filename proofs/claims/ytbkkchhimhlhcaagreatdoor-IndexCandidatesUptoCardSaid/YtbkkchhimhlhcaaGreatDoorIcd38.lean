/- Part 38 of the proof that identitylaw11.IndexCandidates returns true for every data that it may be called with: proof: the package variables hold what the program lays; nothing else is asked. -/
import Derived.Test.YtbkkchhimhlhcaaGreatDoorIcd33
import Derived.Test.YtbkkchhimhlhcaaGreatDoorIcd34
set_option linter.unusedVariables false
set_option linter.unusedSimpArgs false
set_option maxRecDepth 100000
set_option maxHeartbeats 16000000
/- A filter handed over: what a trodden value of api.Filter reads as. -/
namespace Go.Proofs.YtbkkchhimhlhcaaGreatDoor
open Go.RowKit Go.Sort Go.ChangeShapes Go.WideShapes Go.ChangeAt
open Idn (L B Bs drop_L take_L size_L)
section
variable {H : Type} {enc : TypeId × Value → H} {W : World}
theorem cellsOf_Flt : Tryz.prog.cellsOf 31 = 5 := by kernel_rfl
theorem cellsOf_kind : Tryz.prog.cellsOf 28 = 1 := by kernel_rfl
theorem cellsOf_flts : Tryz.prog.cellsOf 29 = 1 := by kernel_rfl
end
end Go.Proofs.YtbkkchhimhlhcaaGreatDoor
