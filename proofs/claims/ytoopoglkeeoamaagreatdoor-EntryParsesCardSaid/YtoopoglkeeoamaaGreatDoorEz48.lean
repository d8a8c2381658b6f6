/- Part 48 of the proof that identitylaw08.EntryParses and EntryReturns return true: the package variables hold what the program lays; nothing else is asked. -/
import Derived.Test.YtoopoglkeeoamaaGreatDoorEz40
set_option linter.unusedVariables false
set_option linter.unusedSimpArgs false
/- Plain: how many attributes a short text can hold. -/
namespace Go.Proofs.YtoopoglkeeoamaaGreatDoor
open Go.RowKit Go.Sort
open Idn (L B Bs drop_L take_L size_L)
theorem pAtts_cons (x : Bs) (l : List Bs) : (pAtts (x :: l)).length ≤ (pAtts l).length + (if x = [] then 0 else 1) := by
  unfold pAtts
  rw [List.filterMap_cons]
  by_cases h : x = []
  · subst h
    have e : pAtt [] = none := rfl
    rw [e]; simp
  · rw [if_neg h]
    cases pAtt x <;> simp
theorem pAtts_half : ∀ (n : Nat) (s : Bs), s.length ≤ n → (pAtts (Idn.cutC 10 s)).length * 2 ≤ s.length + 1 := by
  intro n
  induction n with
  | zero =>
    intro s hs
    have : s = [] := List.eq_nil_of_length_eq_zero (by omega)
    subst this; decide
  | succ n ih =>
    intro s hs
    rw [Idn.cutC_fst]
    cases hf : Idn.fstC 10 s with
    | none =>
      have := pAtts_cons s []
      have e : (pAtts []).length = 0 := rfl
      dsimp only
      by_cases h : s = []
      · subst h; decide
      · rw [if_neg h] at this
        have : 0 < s.length := List.length_pos_iff.2 h
        omega
    | some i =>
      have hi := Idn.fstC_lt hf
      have h1 := ih (s.drop (i + 1)) (by rw [List.length_drop]; omega)
      have h2 := pAtts_cons (s.take i) (Idn.cutC 10 (s.drop (i + 1)))
      rw [List.length_drop] at h1
      dsimp only
      by_cases h : s.take i = []
      · rw [if_pos h] at h2; omega
      · rw [if_neg h] at h2
        have h3 : 0 < (s.take i).length := List.length_pos_iff.2 h
        rw [List.length_take] at h3
        omega
theorem pAtts_tail (q : List Bs) : (pAtts q.tail).length ≤ (pAtts q).length := by
  cases q with
  | nil => simp
  | cons a q =>
    show (pAtts q).length ≤ _
    unfold pAtts
    rw [List.filterMap_cons]
    cases pAtt a <;> simp
theorem pAtts_lim {s : Bs} (h : s.length ≤ 2000) : (pAtts (Idn.cutC 10 s).tail).length ≤ 1000 := by
  have h1 := pAtts_half s.length s (Nat.le_refl _)
  have h2 := pAtts_tail (Idn.cutC 10 s)
  omega
end Go.Proofs.YtoopoglkeeoamaaGreatDoor
