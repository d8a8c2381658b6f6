/- Part 34 of the proof that identitylaw08.EntryApplies returns true: the package variables hold what the program lays; nothing else is asked. -/
import Derived.Test.YtoopoglkeeoamaaGreatDoorEap15
import Derived.Test.YtoopoglkeeoamaaGreatDoorEap17
set_option linter.unusedVariables false
set_option linter.unusedSimpArgs false
set_option maxRecDepth 100000
set_option maxHeartbeats 8000000
/- schema: Parse at the chapter's example (second part). -/
namespace Go.Proofs.YtoopoglkeeoamaaGreatDoor
open Go.RowKit Go.Sort
open Idn (L B Bs drop_L take_L size_L)
def sText : ByteArray := ⟨#[116, 121, 112, 101, 32, 97, 103, 101, 32, 105, 110, 116, 10]⟩
end Go.Proofs.YtoopoglkeeoamaaGreatDoor
