/- Part 36 of the proof that identitylaw09.FilterChecks returns true at every filter.: the package variables hold what the program lays; nothing else is asked. -/
import Derived.Test.YtmamnmjfbadiiaaGreatDoorFck01
import Derived.Test.YtmamnmjfbadiiaaGreatDoorFck10
import Derived.Test.YtmamnmjfbadiiaaGreatDoorFck35
set_option linter.unusedVariables false
set_option linter.unusedSimpArgs false
/- Plain law: cutting and joining; the bytes of names. -/
namespace Idn
open Go
end Idn
