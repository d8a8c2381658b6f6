/- Part 26 of the proof that identitylaw09.FilterNames returns true at all filters: the package variables hold what the program lays; nothing else is asked. -/
import Derived.Test.YtmamnmjfbadiiaaGreatDoorFna10
import Derived.Lib.Bytealg
import Derived.Lib.Small
set_option linter.unusedVariables false
set_option linter.unusedSimpArgs false
/- Plain law: comparisons that are total orders. -/
namespace Idn
open Go
end Idn
