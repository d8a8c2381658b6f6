/- Part 19 of the proof that laws of identitylaw11 return true at every argument within the bound: the package variables hold what the program lays; nothing else is asked. -/
import Derived.Test.YtgjllfonmgfhgaaGreatDoorIra01
import Derived.Lib.Split
import Derived.Lib.SplitLaws
import Derived.Lib.CountLaws
import Derived.Lib.IndexBytes
import Derived.Lib.IndexMore
import Derived.Lib.Strings
set_option linter.unusedVariables false
set_option linter.unusedSimpArgs false
/- Plain law: cutting at a byte. -/
namespace Idn
open Go
end Idn
