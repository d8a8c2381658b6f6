/- Part 23 of the proof that identitylaw09.FilterNames returns true at all filters: the package variables hold what the program lays; nothing else is asked. -/
import Derived.Test.YtmamnmjfbadiiaaGreatDoorFna10
import Derived.Test.YtmamnmjfbadiiaaGreatDoorFna18
set_option linter.unusedVariables false
set_option linter.unusedSimpArgs false
/- Plain functions: what a valid entry is. -/
namespace Idn
end Idn
