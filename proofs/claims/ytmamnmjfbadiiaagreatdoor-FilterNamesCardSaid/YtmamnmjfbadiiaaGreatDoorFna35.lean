/- Part 35 of the proof that identitylaw09.FilterNames returns true at all filters: the package variables hold what the program lays; nothing else is asked. -/
import Derived.Test.YtmamnmjfbadiiaaGreatDoorFna01
import Derived.Test.YtmamnmjfbadiiaaGreatDoorFna10
import Derived.Test.YtmamnmjfbadiiaaGreatDoorFna34
set_option linter.unusedVariables false
set_option linter.unusedSimpArgs false
/- Plain law: cutting and joining; the bytes of names. -/
namespace Idn
open Go
end Idn
