/- Part 26 of the proof that EntryDiffs: the package variables hold what the program lays; nothing else is asked. -/
import Derived.Test.YtoopoglkeeoamaaGreatDoorEdf01
import Derived.Test.YtoopoglkeeoamaaGreatDoorEdf10
import Derived.Test.YtoopoglkeeoamaaGreatDoorEdf25
set_option linter.unusedVariables false
set_option linter.unusedSimpArgs false
/- Plain law: cutting and joining; the bytes of names. -/
namespace Idn
open Go
end Idn
