/- Part 21 of the proof that identitylaw11.IndexNil returns true at every entry, name and filter: the package variables hold what the program lays; nothing else is asked. -/
import Derived.Test.YtgjllfonmgfhgaaGreatDoorInl10
import Derived.Lib.ItoaNum
import Derived.Lib.ItoaMem
set_option linter.unusedVariables false
set_option linter.unusedSimpArgs false
/- Plain law: numbers: what the reference computes is what the layer computes. -/
namespace Idn
open Go
end Idn
/- Plain law: the reference's number is the layer's integer; decimal forms of numbers. -/
namespace Idn
open Go
end Idn
