/- Part 23 of the proof that identitylaw08.EntryApplies returns true: the package variables hold what the program lays; nothing else is asked. -/
import Derived.Test.YtoopoglkeeoamaaGreatDoorEap10
import Derived.Test.YtoopoglkeeoamaaGreatDoorEap18
set_option linter.unusedVariables false
set_option linter.unusedSimpArgs false
set_option maxRecDepth 100000
set_option maxHeartbeats 8000000
/- Plain functions: what a valid entry is. -/
namespace Idn
theorem any_drop {α : Type} (f : α → Bool) (l : List α) (k : Nat) (hk : k < l.length) (b : Bool) (h : b = (l.drop k).any f) :
  (f l[k] = true → b = true) ∧ (f l[k] = false → b = (l.drop (k + 1)).any f) := by
 rw [List.drop_eq_getElem_cons hk, List.any_cons] at h
 exact ⟨fun hn => by rw [h, hn]; rfl, fun hn => by rw [h, hn]; rfl⟩
end Idn
