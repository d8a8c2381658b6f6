/- Part 25 of the proof that the statements of identitylaw09 on matching hold at all arguments: the package variables hold what the program lays; nothing else is asked. -/
import Derived.Test.YtmamnmjfbadiiaaGreatDoorFz09
import Derived.Lib.Bytealg
import Derived.Lib.Small
set_option linter.unusedVariables false
set_option linter.unusedSimpArgs false
set_option maxRecDepth 100000
set_option maxHeartbeats 16000000
/- Plain law: comparisons that are total orders. -/
namespace Idn
open Go
theorem cb_cons (a b : UInt8) (as bs : Bs) : Lib.compareBytes (a :: as) (b :: bs) = if a < b then -1 else if b < a then 1 else Lib.compareBytes as bs := rfl
theorem u8_lt (a b : UInt8) : a < b ↔ a.toNat < b.toNat := UInt8.lt_iff_toNat_lt
theorem u8_ext {a b : UInt8} (h1 : ¬ a < b) (h2 : ¬ b < a) : a = b := by
 rw [u8_lt] at h1 h2
 exact UInt8.toNat_inj.1 (by omega)
end Idn
