/- Part 42 of the proof that identitylaw11.IndexNil returns true at every entry, name and filter: the package variables hold what the program lays; nothing else is asked. -/
import Derived.Test.YtgjllfonmgfhgaaGreatDoorInl35
import Derived.Test.YtgjllfonmgfhgaaGreatDoorInl38
import Derived.Test.YtgjllfonmgfhgaaGreatDoorInl40
import Derived.Test.YtgjllfonmgfhgaaGreatDoorInl41
set_option linter.unusedVariables false
set_option linter.unusedSimpArgs false
/- What the rows of identitylaw08 share: entries, strings handed over. -/
namespace Go.Proofs.YtgjllfonmgfhgaaGreatDoor
open Go.RowKit Go.Sort Go.ChangeShapes Go.WideShapes Go.ChangeAt
open Idn (L B Bs)
section
variable {H : Type} {enc : TypeId × Value → H} {W : World}
set_option maxRecDepth 100000 in
theorem entry_open8 {r : Reach} {b0 : Nat} {v : Value} {d : DataW H} {p : List MemPlace} (hv : Value.okWide Tryz.prog W r b0 41 v) (h : DataW.Trod enc Tryz.prog W 0 (fun _ => true) true 41 v d p) : ∃ n a l, v = .agg #[.string n, a] ∧ AttsV W W.heap.size a l ∧ ALen8 l ∧ n.size ≤ 9223372036854775807 := by
  obtain ⟨v0, v1, y0, y1, n, rfl, _, _, h0, h1⟩ := Go.Joins.open_agg2 Tryz.underlying41 (by kernel_rfl) (by kernel_rfl) hv h
  obtain ⟨s, e0, _, hs⟩ := DataW.trod_string Tryz.underlying9 h0
  simp only [List.cons.injEq, and_true] at e0
  subst e0
  obtain ⟨l, a1, a2⟩ := atts_open h1
  exact ⟨s, v1, l, rfl, a1, a2, by unfold maxLen at hs; omega⟩
end
end Go.Proofs.YtgjllfonmgfhgaaGreatDoor
/- What the rows of identitylaw09 share: a filter handed over. -/
namespace Go.Proofs.YtgjllfonmgfhgaaGreatDoor
open Go.RowKit Go.Sort Go.ChangeShapes Go.WideShapes Go.ChangeAt
open Idn (L B Bs)
section
variable {H : Type} {enc : TypeId × Value → H} {W : World}
set_option maxRecDepth 100000 in
theorem filter_open {r : Reach} {b0 : Nat} {v : Value} {d : DataW H} {p : List MemPlace} (hv : Value.okWide Tryz.prog W r b0 56 v) (h : DataW.Trod enc Tryz.prog W 0 (fun _ => true) true 56 v d p) : ∃ n f, FltV W W.heap.size n v f ∧ fLen f := by
  obtain ⟨cs, rfl, hsz⟩ := okWide_struct Tryz.underlying56 hv
  obtain ⟨fuel, hf⟩ := h
  obtain ⟨f, hl, hc, hln⟩ := flt_open fuel cs.toList _ (by simpa [Value.cells] using hf)
  cases fuel with
  | zero => exact hc.elim
  | succ n =>
    obtain ⟨pv, kv, e, hp, hk⟩ := hc
    refine ⟨n, f, ⟨pv, kv, ?_, hp, hk⟩, hln⟩
    rw [← Array.toArray_toList (xs := cs), e]
    rfl
end
end Go.Proofs.YtgjllfonmgfhgaaGreatDoor
