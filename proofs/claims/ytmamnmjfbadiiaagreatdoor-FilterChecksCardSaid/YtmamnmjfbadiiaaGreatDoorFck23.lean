/- Part 23 of the proof that identitylaw09.FilterChecks returns true at every filter.: the package variables hold what the program lays; nothing else is asked. -/
import Derived.Test.YtmamnmjfbadiiaaGreatDoorFck10
import Derived.Test.YtmamnmjfbadiiaaGreatDoorFck18
set_option linter.unusedVariables false
set_option linter.unusedSimpArgs false
/- Plain functions: what a valid entry is. -/
namespace Idn
end Idn
