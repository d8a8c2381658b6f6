/- Part 21 of the proof that laws of identitylaw11 return true at every argument within the bound: the package variables hold what the program lays; nothing else is asked. -/
import Derived.Test.YtgjllfonmgfhgaaGreatDoorIra08
import Derived.Test.YtgjllfonmgfhgaaGreatDoorIra15
set_option linter.unusedVariables false
set_option linter.unusedSimpArgs false
/- Plain functions: what a valid entry is. -/
namespace Idn
end Idn
