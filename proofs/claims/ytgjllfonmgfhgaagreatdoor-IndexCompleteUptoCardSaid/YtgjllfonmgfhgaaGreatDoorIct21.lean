/- Part 21 of the proof that identitylaw11.IndexComplete returns true at every schema, list of names and case within the bound: the package variables hold what the program lays; nothing else is asked. -/
import Derived.Test.YtgjllfonmgfhgaaGreatDoorIct02
import Derived.Test.YtgjllfonmgfhgaaGreatDoorIct15
set_option linter.unusedVariables false
set_option linter.unusedSimpArgs false
/- Plain functions: what a valid entry is. -/
namespace Idn
end Idn
