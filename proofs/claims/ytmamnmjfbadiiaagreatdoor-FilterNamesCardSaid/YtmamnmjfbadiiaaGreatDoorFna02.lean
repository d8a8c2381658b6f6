/- Part 2 of the proof that identitylaw09.FilterNames returns true at all filters: the package variables hold what the program lays; nothing else is asked. -/
import Derived.Test.YtmamnmjfbadiiaaGreatDoorFna01
import Derived.WalkKit
import Derived.WalkSpells
import Derived.WalkLawsBesides
import Derived.Lib.Hide
import Derived.Lib.Strings
set_option linter.unusedVariables false
set_option linter.unusedSimpArgs false
/- Small helpers of the walks: endings, strings as lists of bytes. -/
namespace Go.Proofs.YtmamnmjfbadiiaaGreatDoor
open Go.RowKit
open Idn (L B Bs drop_L take_L size_L)

theorem ret_bool {a b : Bool} (h : a = b) : Ending.returned (.bool a) = .returned (.bool b) := by rw [h]
theorem ret_int {k : IntKind} {a b : Int} (h : a = b) : Ending.returned (.int k a) = .returned (.int k b) := by rw [h]
theorem ret_str {a b : ByteArray} (h : a = b) : Ending.returned (.string a) = .returned (.string b) := by rw [h]
theorem byte_eq (c d : UInt8) : ((c.toNat : Int) == (d.toNat : Int)) = (c == d) := by
  rw [Bool.eq_iff_iff]
  simp only [beq_iff_eq, Int.natCast_inj]
  exact UInt8.toNat_inj
theorem byte_lt (c : UInt8) : c.toNat < 256 := c.toNat_lt
theorem toList_L (s : ByteArray) : s.toList = L s := Lib.toList_data s
theorem data_L (s : ByteArray) : s.data.toList = L s := rfl
theorem head_L (s : ByteArray) (h : 0 < s.size) : (L s).headD 0 = s[0] := by
  have := drop_L s 0 h
  simp only [List.drop_zero] at this
  rw [this]; rfl
theorem empty_L (s : ByteArray) : (L s).isEmpty = decide (s.size = 0) := by
  rw [size_L]; cases L s <;> simp
theorem list_beq (a b : List UInt8) : (a == b) = decide (a = b) := by
  rw [Bool.eq_iff_iff]; simp
theorem empty_false (s : ByteArray) (h : 0 < s.size) : (L s).isEmpty = false := by rw [empty_L]; exact decide_eq_false (by omega)
theorem empty_true (s : ByteArray) (h : ¬ 0 < s.size) : (L s).isEmpty = true := by rw [empty_L]; exact decide_eq_true (by omega)
theorem str_beq (s t : ByteArray) : (s.toList == t.toList) = decide (L s = L t) := by rw [toList_L, toList_L, list_beq]
theorem str_is {s t : ByteArray} (h : L s = L t) : (s.toList == t.toList) = true := by rw [str_beq]; exact decide_eq_true h
theorem str_not {s t : ByteArray} (h : ¬ L s = L t) : (s.toList == t.toList) = false := by rw [str_beq]; exact decide_eq_false h
end Go.Proofs.YtmamnmjfbadiiaaGreatDoor
