/- Part 46 of the proof that the statements EntryChecks, EntryStable and EntryTexts of identitylaw08 return true at every argument: the package variables hold what the program lays; nothing else is asked. -/
import Derived.Test.YtoopoglkeeoamaaGreatDoorEca33
import Derived.Test.YtoopoglkeeoamaaGreatDoorEca36
import Derived.Test.YtoopoglkeeoamaaGreatDoorEca45
set_option linter.unusedVariables false
set_option linter.unusedSimpArgs false
/- What the rows of identitylaw08 share: entries, strings handed over. -/
namespace Go.Proofs.YtoopoglkeeoamaaGreatDoor
open Go.RowKit Go.Sort Go.ChangeShapes Go.WideShapes Go.ChangeAt
open Idn (L B Bs)
section
variable {H : Type} {enc : TypeId × Value → H} {W : World}
set_option maxRecDepth 100000 in
theorem entry_open8 {r : Reach} {b0 : Nat} {v : Value} {d : DataW H} {p : List MemPlace} (hv : Value.okWide Tryz.prog W r b0 24 v) (h : DataW.Trod enc Tryz.prog W 0 (fun _ => true) true 24 v d p) : ∃ n a l, v = .agg #[.string n, a] ∧ AttsV W W.heap.size a l ∧ ALen8 l ∧ n.size ≤ 9223372036854775807 := by
  obtain ⟨v0, v1, y0, y1, n, rfl, _, _, h0, h1⟩ := Go.Joins.open_agg2 Tryz.underlying24 (by kernel_rfl) (by kernel_rfl) hv h
  obtain ⟨s, e0, _, hs⟩ := DataW.trod_string Tryz.underlying9 h0
  simp only [List.cons.injEq, and_true] at e0
  subst e0
  obtain ⟨l, a1, a2⟩ := atts_open h1
  exact ⟨s, v1, l, rfl, a1, a2, by unfold maxLen at hs; omega⟩
end
end Go.Proofs.YtoopoglkeeoamaaGreatDoor
