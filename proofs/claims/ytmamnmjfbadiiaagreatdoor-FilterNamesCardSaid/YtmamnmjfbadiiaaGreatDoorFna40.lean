/- Part 40 of the proof that identitylaw09.FilterNames returns true at all filters: the package variables hold what the program lays; nothing else is asked. -/
import Derived.Test.YtmamnmjfbadiiaaGreatDoorFna30
import Derived.Test.YtmamnmjfbadiiaaGreatDoorFna33
import Derived.Test.YtmamnmjfbadiiaaGreatDoorFna38
import Derived.Test.YtmamnmjfbadiiaaGreatDoorFna39
set_option linter.unusedVariables false
set_option linter.unusedSimpArgs false
/- What the rows of identitylaw08 share: entries, strings handed over. -/
namespace Go.Proofs.YtmamnmjfbadiiaaGreatDoor
open Go.RowKit Go.Sort Go.ChangeShapes Go.WideShapes Go.ChangeAt
open Idn (L B Bs)
section
variable {H : Type} {enc : TypeId × Value → H} {W : World}
end
end Go.Proofs.YtmamnmjfbadiiaaGreatDoor
/- What the rows of identitylaw09 share: a filter handed over. -/
namespace Go.Proofs.YtmamnmjfbadiiaaGreatDoor
open Go.RowKit Go.Sort Go.ChangeShapes Go.WideShapes Go.ChangeAt
open Idn (L B Bs)
section
variable {H : Type} {enc : TypeId × Value → H} {W : World}
set_option maxRecDepth 100000 in
theorem filter_open {r : Reach} {b0 : Nat} {v : Value} {d : DataW H} {p : List MemPlace} (hv : Value.okWide Tryz.prog W r b0 26 v) (h : DataW.Trod enc Tryz.prog W 0 (fun _ => true) true 26 v d p) : ∃ n f, FltV W W.heap.size n v f ∧ fLen f := by
  obtain ⟨cs, rfl, hsz⟩ := okWide_struct Tryz.underlying26 hv
  obtain ⟨fuel, hf⟩ := h
  obtain ⟨f, hl, hc, hln⟩ := flt_open fuel cs.toList _ (by simpa [Value.cells] using hf)
  cases fuel with
  | zero => exact hc.elim
  | succ n =>
    obtain ⟨pv, kv, e, hp, hk⟩ := hc
    refine ⟨n, f, ⟨pv, kv, ?_, hp, hk⟩, hln⟩
    rw [← Array.toArray_toList (xs := cs), e]
    rfl
end
end Go.Proofs.YtmamnmjfbadiiaaGreatDoor
