/- Part 24 of the proof that identitylaw08.EntryApplies returns true: the package variables hold what the program lays; nothing else is asked. -/
import Derived.Test.YtoopoglkeeoamaaGreatDoorEap01
import Derived.Lib.SplitLaws
set_option linter.unusedVariables false
set_option linter.unusedSimpArgs false
set_option maxRecDepth 100000
set_option maxHeartbeats 8000000
/- Plain law: cutting at a byte. -/
namespace Idn
open Go
end Idn
