/- Part 55 of the proof that the statements of identitylaw09 on matching hold at all arguments: the package variables hold what the program lays; nothing else is asked. -/
import Derived.Test.YtmamnmjfbadiiaaGreatDoorFz44
set_option linter.unusedVariables false
set_option linter.unusedSimpArgs false
set_option maxRecDepth 100000
set_option maxHeartbeats 16000000
/- What the rows of identitylaw09 share: filters handed over as a slice. -/
namespace Go.Proofs.YtmamnmjfbadiiaaGreatDoor
open Go.RowKit Go.Sort Go.ChangeShapes Go.WideShapes Go.ChangeAt
open Idn (L B Bs)
section
variable {H : Type} {enc : TypeId × Value → H} {W : World}
theorem filters_open {r : Reach} {b0 : Nat} {v : Value} {d : DataW H} {p : List MemPlace} (hv : Value.okWide Tryz.prog W r b0 24 v) (h : DataW.Trod enc Tryz.prog W 0 (fun _ => true) true 24 v d p) : ∃ n l, FltsV W W.heap.size n v l ∧ fLens l ∧ l.length ≤ 9223372036854775807 := by
 obtain ⟨A, len, c, rfl⟩ := okWide_slice Tryz.underlying24 hv
 obtain ⟨fuel, hf⟩ := h
 obtain ⟨ks, ⟨hk, hkx⟩, hkl⟩ := sl_openN2 (E := FltC W W.heap.size fuel) (Pz := fLen) Tryz.underlying24 cellsOf_Flt (by decide) hf fun cs m y hm hy => by
  obtain ⟨g, g1, g2, g3⟩ := flt_open m cs y hy
  exact ⟨g, g1, FltC.deep (by omega) g2, g3⟩
 exact ⟨fuel, ks, hk, fLens_all.2 hkx, hkl⟩
end
end Go.Proofs.YtmamnmjfbadiiaaGreatDoor
