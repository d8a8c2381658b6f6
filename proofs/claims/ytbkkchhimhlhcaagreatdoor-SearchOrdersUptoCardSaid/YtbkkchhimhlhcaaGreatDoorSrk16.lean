/- Part 16 of the proof that identitylaw12.SearchChecks returns true for every data that it may be called with: proof: the package variables hold what the program lays; nothing else is asked. -/
import Derived.Test.YtbkkchhimhlhcaaGreatDoorSrk05
import Derived.Lib.ItoaMem
set_option linter.unusedVariables false
set_option linter.unusedSimpArgs false
set_option maxRecDepth 100000
set_option maxHeartbeats 16000000
/- Plain law: numbers: what the reference computes is what the layer computes. -/
namespace Idn
open Go
end Idn
/- Plain law: the reference's number is the layer's integer; decimal forms of numbers. -/
namespace Idn
open Go
end Idn
