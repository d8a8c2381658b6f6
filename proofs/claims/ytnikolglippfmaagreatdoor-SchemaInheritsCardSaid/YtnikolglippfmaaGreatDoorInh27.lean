/- Part 27 of the proof that a class requires and allows what its superclass requires and allows, and a valid entry has all that its classes require, and stays valid with its attribute names in upper case: the package variables hold what the program lays; nothing else is asked: the package variables hold what the program lays; nothing else is asked. -/
import Derived.Test.YtnikolglippfmaaGreatDoorInh17
import Derived.Test.YtnikolglippfmaaGreatDoorInh19
/- Plain functions: what a valid entry is. -/
namespace Idn
theorem any_drop {α : Type} (f : α → Bool) (l : List α) (k : Nat) (hk : k < l.length) (b : Bool) (h : b = (l.drop k).any f) :
    (f l[k] = true → b = true) ∧ (f l[k] = false → b = (l.drop (k + 1)).any f) := by
  rw [List.drop_eq_getElem_cons hk, List.any_cons] at h
  exact ⟨fun hn => by rw [h, hn]; rfl, fun hn => by rw [h, hn]; rfl⟩
theorem flat_take {α β : Type} (f : α → List β) (l : List α) (k : Nat) (hk : k < l.length) : (l.take (k + 1)).flatMap f = (l.take k).flatMap f ++ f l[k] := by
  rw [List.take_succ_eq_append_getElem hk, List.flatMap_append]; simp
end Idn
