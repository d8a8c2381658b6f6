/- Part 22 of the proof that Valid returns the specified error: the package variables hold what the program lays; nothing else is asked. -/
import Derived.Test.YtnikolglippfmaaGreatDoorVdz13
import Derived.Test.YtnikolglippfmaaGreatDoorVdz18
/- Plain functions: what a valid entry is. -/
namespace Idn
theorem any_drop {α : Type} (f : α → Bool) (l : List α) (k : Nat) (hk : k < l.length) (b : Bool) (h : b = (l.drop k).any f) :
    (f l[k] = true → b = true) ∧ (f l[k] = false → b = (l.drop (k + 1)).any f) := by
  rw [List.drop_eq_getElem_cons hk, List.any_cons] at h
  exact ⟨fun hn => by rw [h, hn]; rfl, fun hn => by rw [h, hn]; rfl⟩
theorem flat_take {α β : Type} (f : α → List β) (l : List α) (k : Nat) (hk : k < l.length) : (l.take (k + 1)).flatMap f = (l.take k).flatMap f ++ f l[k] := by
  rw [List.take_succ_eq_append_getElem hk, List.flatMap_append]; simp
end Idn
