/- Part 35 of the proof that identitylaw08.EntryParses and EntryReturns return true: the package variables hold what the program lays; nothing else is asked. -/
import Derived.Test.YtoopoglkeeoamaaGreatDoorEz01
import Derived.Test.YtoopoglkeeoamaaGreatDoorEz10
import Derived.Test.YtoopoglkeeoamaaGreatDoorEz19
set_option linter.unusedVariables false
set_option linter.unusedSimpArgs false
/- Plain law: cutting and joining; the bytes of names. -/
namespace Idn
open Go
theorem cutC_app (c : UInt8) (rest : Bs) : ∀ a : Bs, c ∉ a → cutC c (a ++ c :: rest) = a :: cutC c rest
  | [], _ => by rw [List.nil_append, cutC, if_pos (by simp)]
  | x :: a, h => by
    simp only [List.mem_cons, not_or] at h
    rw [List.cons_append, cutC, cutC_app c rest a h.2, if_neg (by simpa using fun e => h.1 e.symm)]
    rfl
end Idn
