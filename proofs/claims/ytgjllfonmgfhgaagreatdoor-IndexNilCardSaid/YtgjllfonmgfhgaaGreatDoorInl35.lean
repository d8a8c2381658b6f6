/- Part 35 of the proof that identitylaw11.IndexNil returns true at every entry, name and filter: the package variables hold what the program lays; nothing else is asked. -/
import Derived.Test.YtgjllfonmgfhgaaGreatDoorInl09
import Derived.Test.YtgjllfonmgfhgaaGreatDoorInl34
import Derived.Deep.Slices
import Derived.Deep.Strs
import Derived.Lib.SmallJoins
import Derived.SliceStrings
set_option linter.unusedVariables false
set_option linter.unusedSimpArgs false
/- The argument of a law: a schema, out of what it reads as. -/
namespace Go.Proofs.YtgjllfonmgfhgaaGreatDoor
open Go.RowKit Go.Sort Go.ChangeShapes Go.WideShapes Go.ChangeAt
open Idn (L B Bs drop_L take_L size_L)

theorem exList {α : Type} (Q : Nat → α → Prop) : ∀ (n : Nat), (∀ i, i < n → ∃ x, Q i x) → ∃ l : List α, l.length = n ∧ ∀ i x, l[i]? = some x → Q i x
  | 0, _ => ⟨[], rfl, fun i x h => by simp at h⟩
  | n + 1, h => by
    obtain ⟨l, h1, h2⟩ := exList Q n fun i hi => h i (by omega)
    obtain ⟨x, hx⟩ := h n (by omega)
    refine ⟨l ++ [x], by simp [h1], fun i y hy => ?_⟩
    by_cases hi : i < n
    · rw [List.getElem?_append_left (by omega)] at hy
      exact h2 i y hy
    · have hil := (List.getElem?_eq_some_iff.1 hy).1
      simp at hil
      have : i = n := by omega
      subst this
      rw [List.getElem?_append_right (by omega)] at hy
      simp [h1] at hy
      exact hy ▸ hx
theorem cellsOf_string : Tryz.prog.cellsOf 9 = 1 := by kernel_rfl
theorem cellsOf_strs : Tryz.prog.cellsOf 26 = 1 := by kernel_rfl
section
variable {H : Type} {enc : TypeId × Value → H} {W : World}
theorem strs_open {fuel : Nat} {v : Value} {x : DataW H × List MemPlace} (h : DataW.trod enc Tryz.prog W 0 (fun _ => true) true fuel 26 [v] = some x) : ∃ l, StrsV W W.heap.size v l ∧ l.length ≤ 9223372036854775807 := by
  rcases open_strings Tryz.underlying26 Tryz.underlying9 cellsOf_string h with ⟨hcs, hx⟩ | ⟨a, len, cap, ss, hcs, _, hl, hm, hz, hx, hcell, _⟩
  · simp at hcs
    subst hcs
    exact ⟨[], SlV.nil _ _ _ _, by simp⟩
  · simp at hcs
    subst hcs
    simp only [if_true] at hz
    obtain ⟨b, off, spot⟩ := a
    have hlen : ((ss.take len).map L).length = len := by simp; omega
    refine ⟨(ss.take len).map L, ?_, by rw [hlen]; unfold maxLen at hm; omega⟩
    refine ⟨some ⟨b, off, spot⟩, cap, by rw [hlen], by rw [hlen]; exact hl, fun hp => ?_⟩
    rw [hlen] at hp
    have hspot : spot = none := by simpa [Addr.add] using World.cell?_spot (hcell 0 (by omega))
    subst hspot
    refine ⟨b, off, rfl, World.block_lt_of_cell? _ _ (hcell 0 (by omega)), fun i y hy => ?_⟩
    rw [List.getElem?_map] at hy
    obtain ⟨t, ht, rfl⟩ := Option.map_eq_some_iff.1 hy
    refine ⟨[sv (L t)], rfl, rfl, fun j u hj => ?_⟩
    match j, hj with
    | 0, hj =>
      simp at hj; subst hj
      have hil : i < len := by
        have := (List.getElem?_eq_some_iff.1 ht).1
        simp at this; omega
      have := hcell i (by omega)
      rw [add_plain] at this
      rw [Nat.mul_one, Nat.add_zero, this]
      rw [List.getElem?_take_of_lt hil] at ht
      simp [sv, Idn.B_L, List.getD, ht]
theorem sl_open {α : Type} {E : α → List Value → Prop} {size : Nat} {t e : TypeId} {fuel : Nat} {v : Value} {x : DataW H × List MemPlace} (ht : Tryz.prog.underlying t = some (.slice e)) (hsz : Tryz.prog.cellsOf e = size) (hpos : 0 < size)
    (h : DataW.trod enc Tryz.prog W 0 (fun _ => true) true fuel t [v] = some x)
    (hE : ∀ (cs : List Value) (n : Nat) (y : DataW H × List MemPlace), DataW.trod enc Tryz.prog W 0 (fun _ => true) true n e cs = some y → ∃ z : α, cs.length = size ∧ E z cs) : ∃ l, SlV E W W.heap.size size v l ∧ l.length ≤ 9223372036854775807 := by
  rcases Go.Deep.open_slice ht h with ⟨hcs, hx⟩ | ⟨a, len, cap, m, n, D, Pl, hcs, _, hl, hm, hmm, hx, hel⟩
  · simp at hcs
    subst hcs
    exact ⟨[], SlV.nil _ _ _ _, by simp⟩
  · simp at hcs
    subst hcs
    simp only [if_true] at hmm
    obtain ⟨l, hl1, hl2⟩ := exList (fun i (z : α) => ∃ cs, W.cells? 0 (a.add (i * size)) size = some cs ∧ cs.length = size ∧ E z cs) len fun i hi => by
      obtain ⟨cs, h1, h2⟩ := hel i (by omega)
      rw [hsz] at h1
      obtain ⟨z, h3, h4⟩ := hE cs n _ h2
      exact ⟨z, cs, h1, h3, h4⟩
    refine ⟨l, ⟨some a, cap, by rw [hl1], by rw [hl1]; exact hl, fun hp => ?_⟩, by rw [hl1]; unfold maxLen at hm; omega⟩
    obtain ⟨b, off, spot⟩ := a
    obtain ⟨z0, hz0⟩ : ∃ z, l[0]? = some z := ⟨_, List.getElem?_eq_getElem hp⟩
    obtain ⟨cs0, h0, h0l, _⟩ := hl2 0 z0 hz0
    have hc0 := (World.cells?_some h0).2.2 0 (by omega)
    have hv0 : ∃ u, cs0[0]? = some u := ⟨_, List.getElem?_eq_getElem (by omega)⟩
    obtain ⟨u0, hu0⟩ := hv0
    rw [hu0] at hc0
    have hspot : spot = none := by simpa [Addr.add] using World.cell?_spot hc0
    subst hspot
    rw [add_plain, add_plain] at hc0
    refine ⟨b, off, rfl, World.block_lt_of_cell? _ _ hc0, fun i z hz => ?_⟩
    obtain ⟨cs, h1, h2, h3⟩ := hl2 i z hz
    refine ⟨cs, h2, h3, fun j u hj => ?_⟩
    have hjl := (List.getElem?_eq_some_iff.1 hj).1
    have := (World.cells?_some h1).2.2 j (by omega)
    rw [hj, add_plain, add_plain] at this
    rw [← Nat.add_assoc]; exact this
end
end Go.Proofs.YtgjllfonmgfhgaaGreatDoor
/- An entry handed over: what a trodden value of api.Entry reads as. -/
namespace Go.Proofs.YtgjllfonmgfhgaaGreatDoor
open Go.RowKit Go.Sort Go.ChangeShapes Go.WideShapes Go.ChangeAt
open Idn (L B Bs)
theorem cellsOf_Att : Tryz.prog.cellsOf 90 = 2 := by kernel_rfl
section
variable {H : Type} {enc : TypeId × Value → H} {W : World}
set_option maxRecDepth 100000 in
theorem atts_open {fuel : Nat} {v : Value} {x : DataW H × List MemPlace} (h : DataW.trod enc Tryz.prog W 0 (fun _ => true) true fuel 39 [v] = some x) : ∃ l, AttsV W W.heap.size v l ∧ ALen l := by
  obtain ⟨l, h1, h2⟩ := sl_open (E := fun (c : Idn.Att) cs => EA W W.heap.size c cs ∧ c.vals.length ≤ 9223372036854775807) Tryz.underlying39 cellsOf_Att (by decide) h fun cs n y hy => by
    obtain ⟨y0, y1, m, _, hl, h0, h1⟩ := trod_struct2 Tryz.underlying90 hy
    rw [cellsOf_Att] at hl
    match cs, hl with
    | [a, b], _ =>
      obtain ⟨s, e0, _, _⟩ := DataW.trod_string Tryz.underlying9 h0
      simp [cellsOf_string] at e0
      subst e0
      have h1' : DataW.trod enc Tryz.prog W 0 (fun _ => true) true m 26 [b] = some y1 := by simpa [cellsOf_string, cellsOf_strs] using h1
      obtain ⟨l2, a1, a2⟩ := strs_open h1'
      exact ⟨⟨L s, l2⟩, rfl, ⟨b, by simp [sv, Idn.B_L], a1⟩, a2⟩
  refine ⟨l, SlV.keepE h1 (Below.refl _ _) fun _ _ _ he => he.1, h2, ?_⟩
  obtain ⟨A, c, hv, hc, hx⟩ := h1
  intro y hy
  obtain ⟨i, hi, rfl⟩ := List.getElem_of_mem hy
  obtain ⟨b, off, _, _, hz⟩ := hx (by omega)
  obtain ⟨cs, _, hE, _⟩ := hz i _ (List.getElem?_eq_getElem hi)
  exact hE.2
end
end Go.Proofs.YtgjllfonmgfhgaaGreatDoor
