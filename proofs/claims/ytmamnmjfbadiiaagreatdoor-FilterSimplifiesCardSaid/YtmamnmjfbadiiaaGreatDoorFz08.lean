/- Part 8 of the proof that the statements of identitylaw09 on matching hold at all arguments: the package variables hold what the program lays; nothing else is asked. -/
import Derived.Test.YtmamnmjfbadiiaaGreatDoorFz04
import Derived.Test.YtmamnmjfbadiiaaGreatDoorFz07
set_option linter.unusedVariables false
set_option linter.unusedSimpArgs false
set_option maxRecDepth 100000
set_option maxHeartbeats 16000000
/- attrs: values, Check. -/
namespace Go.Proofs.YtmamnmjfbadiiaaGreatDoor
open Go.RowKit Go.Sort
open Idn (L B Bs drop_L take_L size_L)
theorem contains_any (v : Value) (l : List Bs) (x : ByteArray) (w : World) (hv : StrsV w w.heap.size v l) (hl : l.length ≤ 1000000000) :
  Calls Tryz.prog 136 #[v, .string x] w fun e w' => e = .returned (.bool (l.contains (L x))) ∧ w = w' := by
 obtain ⟨A, c, rfl, hc⟩ := hv.shape
 by_cases h0 : l.length = 0
 ·have hl0 : l = [] := List.eq_nil_of_length_eq_zero h0
  subst hl0
  exact (Tryz.slices_Contains_string_empty A c x w).mono fun e w' ⟨h1, h2⟩ => ⟨h1, h2.symm⟩
 ·obtain ⟨b, off, rfl, hb, _⟩ := StrsV.cell hv (k := 0) (by omega)
  refine (Tryz.slices_Contains_string b off l.length c (l.map B) x w (by simp) (by omega) (fun j hj => ?_)).mono fun e w' ⟨h1, h2⟩ => ⟨?_, h2.symm⟩
  ·rw [List.length_map] at hj
   obtain ⟨b', off', hA', _, hcc⟩ := StrsV.cell hv hj
   injection hA' with hA'
   injection hA' with h1 h2
   subst h1 h2
   rw [hcc]
   simp [List.getD_eq_getElem?_getD, hj]
  ·rw [h1]
   have ht : (l.map B).take l.length = l.map B := by rw [List.take_of_length_le]; simp
   rw [ht]
   congr 2
   rw [Bool.eq_iff_iff, Lib.containsS_iff, List.contains_iff_mem, List.mem_map]
   constructor
   ·rintro ⟨a, ha, rfl⟩; exact ha
   ·intro h; exact ⟨L x, h, Idn.B_L x⟩
def EA (w : World) (hi : Nat) (x : Idn.Att) (cs : List Value) : Prop := ∃ v, cs = [sv x.name, v] ∧ StrsV w hi v x.vals
abbrev AttsV (w : World) (hi : Nat) (v : Value) (l : List Idn.Att) : Prop := SlV (EA w hi) w hi 2 v l
theorem EA.keep {w w' : World} {hi : Nat} {x : Idn.Att} {cs : List Value} (h : EA w hi x cs) (hb : Below hi w w') : EA w' hi x cs := by
 obtain ⟨v, h1, h2⟩ := h
 exact ⟨v, h1, SlV.keep h2 hb⟩
theorem EA.mono {w : World} {hi hi' : Nat} {x : Idn.Att} {cs : List Value} (h : EA w hi x cs) (hh : hi ≤ hi') : EA w hi' x cs := by
 obtain ⟨v, h1, h2⟩ := h
 exact ⟨v, h1, SlV.mono h2 hh⟩
theorem AttsV.keep {w w' : World} {hi : Nat} {v : Value} {l : List Idn.Att} (h : AttsV w hi v l) (hb : Below hi w w') : AttsV w' hi v l := SlV.keepE h hb fun _ _ _ he => he.keep hb
theorem AttsV.mono {w : World} {hi hi' : Nat} {v : Value} {l : List Idn.Att} (h : AttsV w hi v l) (hh : hi ≤ hi') : AttsV w hi' v l :=
 SlV.mono (SlV.keepE h (Below.refl _ _) fun _ _ _ he => he.mono hh) hh
theorem AttsV.cell {w : World} {hi : Nat} {A : Option Addr} {n c : Nat} {l : List Idn.Att} (h : AttsV w hi (.slice A n c) l) {k : Nat} (hk : k < l.length) :
  ∃ b off v, A = some ⟨b, off, none⟩ ∧ b < hi ∧ w.cell? ⟨b, off + k * 2, none⟩ = some (.string (B l[k].name)) ∧ w.cell? ⟨b, off + k * 2 + 1, none⟩ = some v ∧ StrsV w hi v l[k].vals := by
 obtain ⟨b, off, hA, hb, cs, h1, ⟨v, h2, h4⟩, h3⟩ := h.at_ hk
 subst h2
 exact ⟨b, off, v, hA, hb, by simpa [sv] using h3 0 _ rfl, by simpa [Nat.add_assoc] using h3 1 _ rfl, h4⟩
end Go.Proofs.YtmamnmjfbadiiaaGreatDoor
/- What an entry reads as. -/
namespace Go.Proofs.YtmamnmjfbadiiaaGreatDoor
open Go.RowKit Go.Sort
open Idn (L B Bs)
def EntV (w : World) (hi : Nat) (v : Value) (l : List Idn.Att) : Prop := ∃ nm a, v = .agg #[.string nm, a] ∧ AttsV w hi a l
def ALen (l : List Idn.Att) : Prop := l.length ≤ 9223372036854775807 ∧ ∀ a ∈ l, a.vals.length ≤ 9223372036854775807
theorem EntV.keep {w w' : World} {hi : Nat} {v : Value} {l : List Idn.Att} (h : EntV w hi v l) (hb : Below hi w w') : EntV w' hi v l := by
 obtain ⟨nm, a, e, h1⟩ := h
 exact ⟨nm, a, e, AttsV.keep h1 hb⟩
theorem EntV.mono {w : World} {hi hi' : Nat} {v : Value} {l : List Idn.Att} (h : EntV w hi v l) (hh : hi ≤ hi') : EntV w hi' v l := by
 obtain ⟨nm, a, e, h1⟩ := h
 exact ⟨nm, a, e, AttsV.mono h1 hh⟩
end Go.Proofs.YtmamnmjfbadiiaaGreatDoor
