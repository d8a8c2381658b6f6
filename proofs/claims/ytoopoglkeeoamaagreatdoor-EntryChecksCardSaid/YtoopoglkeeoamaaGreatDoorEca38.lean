/- Part 38 of the proof that the statements EntryChecks, EntryStable and EntryTexts of identitylaw08 return true at every argument: the package variables hold what the program lays; nothing else is asked. -/
import Derived.Test.YtoopoglkeeoamaaGreatDoorEca01
import Derived.Test.YtoopoglkeeoamaaGreatDoorEca09
import Derived.Test.YtoopoglkeeoamaaGreatDoorEca37
set_option linter.unusedVariables false
set_option linter.unusedSimpArgs false
/- Plain law: cutting and joining; the bytes of names. -/
namespace Idn
open Go
end Idn
