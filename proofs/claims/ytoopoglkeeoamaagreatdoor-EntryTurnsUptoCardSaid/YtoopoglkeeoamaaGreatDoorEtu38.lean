/- Part 38 of the proof that EntryTurns: the package variables hold what the program lays; nothing else is asked. -/
import Derived.Test.YtoopoglkeeoamaaGreatDoorEtu01
import Derived.Test.YtoopoglkeeoamaaGreatDoorEtu10
import Derived.Test.YtoopoglkeeoamaaGreatDoorEtu37
set_option linter.unusedVariables false
set_option linter.unusedSimpArgs false
/- Plain law: cutting and joining; the bytes of names. -/
namespace Idn
open Go
end Idn
