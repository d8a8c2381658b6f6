/- Part 23 of the proof that identitylaw09.FilterTexts returns true at every filter: the package variables hold what the program lays; nothing else is asked. -/
import Derived.Test.YtmamnmjfbadiiaaGreatDoorFtx10
import Derived.Test.YtmamnmjfbadiiaaGreatDoorFtx18
set_option linter.unusedVariables false
set_option linter.unusedSimpArgs false
/- Plain functions: what a valid entry is. -/
namespace Idn
end Idn
