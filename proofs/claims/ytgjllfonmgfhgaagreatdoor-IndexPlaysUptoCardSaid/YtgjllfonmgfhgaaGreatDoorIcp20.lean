/- Part 20 of the proof that laws of identitylaw11 return true at every argument within the bound: the package variables hold what the program lays; nothing else is asked. -/
import Derived.Test.YtgjllfonmgfhgaaGreatDoorIcp02
import Derived.Test.YtgjllfonmgfhgaaGreatDoorIcp16
set_option linter.unusedVariables false
set_option linter.unusedSimpArgs false
set_option maxRecDepth 100000
set_option maxHeartbeats 16000000
/- Plain functions: what a valid entry is. -/
namespace Idn
end Idn
