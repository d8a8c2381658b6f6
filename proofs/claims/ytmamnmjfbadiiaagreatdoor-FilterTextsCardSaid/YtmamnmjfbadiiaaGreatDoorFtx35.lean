/- Part 35 of the proof that identitylaw09.FilterTexts returns true at every filter: the package variables hold what the program lays; nothing else is asked. -/
import Derived.Test.YtmamnmjfbadiiaaGreatDoorFtx01
import Derived.Test.YtmamnmjfbadiiaaGreatDoorFtx10
import Derived.Test.YtmamnmjfbadiiaaGreatDoorFtx34
set_option linter.unusedVariables false
set_option linter.unusedSimpArgs false
/- Plain law: cutting and joining; the bytes of names. -/
namespace Idn
open Go
end Idn
