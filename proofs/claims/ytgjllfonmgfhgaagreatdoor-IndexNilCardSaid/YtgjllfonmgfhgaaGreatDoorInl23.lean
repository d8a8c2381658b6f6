/- Part 23 of the proof that identitylaw11.IndexNil returns true at every entry, name and filter: the package variables hold what the program lays; nothing else is asked. -/
import Derived.Test.YtgjllfonmgfhgaaGreatDoorInl10
import Derived.Test.YtgjllfonmgfhgaaGreatDoorInl18
set_option linter.unusedVariables false
set_option linter.unusedSimpArgs false
/- Plain functions: what a valid entry is. -/
namespace Idn
end Idn
