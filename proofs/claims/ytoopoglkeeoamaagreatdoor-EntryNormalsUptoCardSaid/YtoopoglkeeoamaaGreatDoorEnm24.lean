/- Part 24 of the proof that the statement EntryNormals of identitylaw08 returns true at every argument of bulk at most 1048576: the package variables hold what the program lays; nothing else is asked. -/
import Derived.Test.YtoopoglkeeoamaaGreatDoorEnm01
import Derived.Lib.Split
import Derived.Lib.SplitLaws
import Derived.Lib.CountLaws
import Derived.Lib.IndexBytes
import Derived.Lib.IndexMore
import Derived.Lib.Strings
set_option linter.unusedVariables false
set_option linter.unusedSimpArgs false
/- Plain law: cutting at a byte. -/
namespace Idn
open Go
end Idn
