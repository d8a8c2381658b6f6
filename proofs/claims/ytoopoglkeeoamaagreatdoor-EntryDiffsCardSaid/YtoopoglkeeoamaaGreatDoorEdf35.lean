/- Part 35 of the proof that EntryDiffs: the package variables hold what the program lays; nothing else is asked. -/
import Derived.Test.YtoopoglkeeoamaaGreatDoorEdf15
import Derived.Test.YtoopoglkeeoamaaGreatDoorEdf17
set_option linter.unusedVariables false
set_option linter.unusedSimpArgs false
/- schema: Parse at the chapter's example (second part). -/
namespace Go.Proofs.YtoopoglkeeoamaaGreatDoor
open Go.RowKit Go.Sort
open Idn (L B Bs drop_L take_L size_L)

def sText : ByteArray := ⟨#[116, 121, 112, 101, 32, 97, 103, 101, 32, 105, 110, 116, 10]⟩
end Go.Proofs.YtoopoglkeeoamaaGreatDoor
