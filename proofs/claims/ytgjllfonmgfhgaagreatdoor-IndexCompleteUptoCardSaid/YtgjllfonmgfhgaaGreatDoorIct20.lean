/- Part 20 of the proof that identitylaw11.IndexComplete returns true at every schema, list of names and case within the bound: the package variables hold what the program lays; nothing else is asked. -/
import Derived.Test.YtgjllfonmgfhgaaGreatDoorIct01
import Derived.Test.YtgjllfonmgfhgaaGreatDoorIct04
import Derived.Test.YtgjllfonmgfhgaaGreatDoorIct05
import Derived.Test.YtgjllfonmgfhgaaGreatDoorIct06
import Derived.Test.YtgjllfonmgfhgaaGreatDoorIct08
set_option linter.unusedVariables false
set_option linter.unusedSimpArgs false
/- attrs: values, Check. -/
namespace Go.Proofs.YtgjllfonmgfhgaaGreatDoor
open Go.RowKit Go.Sort
open Idn (L B Bs drop_L take_L size_L)

theorem contains_any (v : Value) (l : List Bs) (x : ByteArray) (w : World) (hv : StrsV w w.heap.size v l) (hl : l.length ≤ 1000000000) :
    Calls Tryz.prog 141 #[v, .string x] w fun e w' => e = .returned (.bool (l.contains (L x))) ∧ w = w' := by
  obtain ⟨A, c, rfl, hc⟩ := hv.shape
  by_cases h0 : l.length = 0
  · have hl0 : l = [] := List.eq_nil_of_length_eq_zero h0
    subst hl0
    exact (Tryz.slices_Contains_string_empty A c x w).mono fun e w' ⟨h1, h2⟩ => ⟨h1, h2.symm⟩
  · obtain ⟨b, off, rfl, hb, _⟩ := StrsV.cell hv (k := 0) (by omega)
    refine (Tryz.slices_Contains_string b off l.length c (l.map B) x w (by simp) (by omega) (fun j hj => ?_)).mono fun e w' ⟨h1, h2⟩ => ⟨?_, h2.symm⟩
    · rw [List.length_map] at hj
      obtain ⟨b', off', hA', _, hcc⟩ := StrsV.cell hv hj
      injection hA' with hA'
      injection hA' with h1 h2
      subst h1 h2
      rw [hcc]
      simp [List.getD_eq_getElem?_getD, hj]
    · rw [h1]
      have ht : (l.map B).take l.length = l.map B := by rw [List.take_of_length_le]; simp
      rw [ht]
      congr 2
      rw [Bool.eq_iff_iff, Lib.containsS_iff, List.contains_iff_mem, List.mem_map]
      constructor
      · rintro ⟨a, ha, rfl⟩; exact ha
      · intro h; exact ⟨L x, h, Idn.B_L x⟩
/-- a list of attributes -/
def EA (w : World) (hi : Nat) (x : Idn.Att) (cs : List Value) : Prop := ∃ v, cs = [sv x.name, v] ∧ StrsV w hi v x.vals
abbrev AttsV (w : World) (hi : Nat) (v : Value) (l : List Idn.Att) : Prop := SlV (EA w hi) w hi 2 v l
theorem EA.keep {w w' : World} {hi : Nat} {x : Idn.Att} {cs : List Value} (h : EA w hi x cs) (hb : Below hi w w') : EA w' hi x cs := by
  obtain ⟨v, h1, h2⟩ := h
  exact ⟨v, h1, SlV.keep h2 hb⟩
theorem EA.mono {w : World} {hi hi' : Nat} {x : Idn.Att} {cs : List Value} (h : EA w hi x cs) (hh : hi ≤ hi') : EA w hi' x cs := by
  obtain ⟨v, h1, h2⟩ := h
  exact ⟨v, h1, SlV.mono h2 hh⟩
theorem AttsV.keep {w w' : World} {hi : Nat} {v : Value} {l : List Idn.Att} (h : AttsV w hi v l) (hb : Below hi w w') : AttsV w' hi v l := SlV.keepE h hb fun _ _ _ he => he.keep hb
theorem AttsV.mono {w : World} {hi hi' : Nat} {v : Value} {l : List Idn.Att} (h : AttsV w hi v l) (hh : hi ≤ hi') : AttsV w hi' v l :=
  SlV.mono (SlV.keepE h (Below.refl _ _) fun _ _ _ he => he.mono hh) hh
theorem AttsV.cell {w : World} {hi : Nat} {A : Option Addr} {n c : Nat} {l : List Idn.Att} (h : AttsV w hi (.slice A n c) l) {k : Nat} (hk : k < l.length) :
    ∃ b off v, A = some ⟨b, off, none⟩ ∧ b < hi ∧ w.cell? ⟨b, off + k * 2, none⟩ = some (.string (B l[k].name)) ∧ w.cell? ⟨b, off + k * 2 + 1, none⟩ = some v ∧ StrsV w hi v l[k].vals := by
  obtain ⟨b, off, hA, hb, cs, h1, ⟨v, h2, h4⟩, h3⟩ := h.at_ hk
  subst h2
  exact ⟨b, off, v, hA, hb, by simpa [sv] using h3 0 _ rfl, by simpa [Nat.add_assoc] using h3 1 _ rfl, h4⟩
/-- small attributes -/
def ASm (l : List Idn.Att) : Prop := l.length ≤ 1000000000 ∧ ∀ a ∈ l, a.name.length ≤ 1000000000 ∧ Sm a.vals

set_option maxHeartbeats 1000000 in
set_option maxRecDepth 100000 in
theorem values_any (v : Value) (l : List Bs) (w : World) (hv : StrsV w w.heap.size v l) (hs : Sm l) :
    Calls Tryz.prog 90 #[v] w fun e w' => e = .returned (.int .i64 (Idn.valsErr [] l)) ∧ Below w.heap.size w w' := by
  obtain ⟨A, c, rfl, hc⟩ := hv.shape
  generalize hrr : Idn.valsErr [] l = r
  have HR := Lib.hid hrr
  clear hrr
  have hl9 := hs.1
  go_enter Tryz.func90, Tryz.ntmps90
  go_wp2
  go_loopw [3, 4, 7] (fun _ _ i wr => ∃ k : Nat, k ≤ l.length ∧ i = .int .i64 k ∧ Below w.heap.size w wr ∧ Hid (r = Idn.valsErr (l.take k) (l.drop k))) (fun _ _ i _ => l.length - (intOf i).toNat)
  case atStart => exact ⟨0, Nat.zero_le _, rfl, Below.refl _ _, by show _ = _; rw [← HR.out]; simp⟩
  case round =>
    obtain ⟨k, hk, rfl, hb, hinv⟩ := hrel
    by_cases hlt : k < l.length
    · obtain ⟨b, off, rfl, hbl, c0⟩ := StrsV.cell (SlV.keep hv hb) hlt
      have hltI : (k : Int) < (l.length : Int) := by omega
      have hkc : (k : Int) ≤ (c : Int) := by omega
      have hk0 : (0 : Int) ≤ (k : Int) := by omega
      obtain ⟨s1, s2, s3⟩ := Idn.vals_step l k hlt _ hinv.out
      have hsz := hs.2 l[k] (List.getElem_mem hlt)
      have hC := clean_any (B l[k]) wr (by rw [Idn.size_B]; omega)
      rw [Idn.L_B] at hC
      clear hinv
      cases h1 : Idn.clean l[k]
      · have HF : Hid (r = 4) := s1 h1
        rw [h1] at hC
        clear s1 s2 s3 h1
        go_wp2_with (go_at_call 120; refine hC.mono ?_; rintro e w2 ⟨rfl, hb2⟩)
        go_ret
        exact ⟨ret_int (by rw [HF.out]), hb.trans (hb2.mono hb.size)⟩
      · rw [h1] at hC
        have hCt := fun W (hW : Below w.heap.size w W) => contains_any _ (l.take k) (B l[k]) W (SlV.take (SlV.mono (SlV.keep hv hW) hW.size) k hk) (by rw [List.length_take]; omega)
        rw [Idn.L_B] at hCt
        cases h2 : (l.take k).contains l[k]
        · have HF : Hid (r = Idn.valsErr (l.take (k + 1)) (l.drop (k + 1))) := s3 h1 h2
          rw [h2] at hCt
          clear s1 s2 s3 h1 h2
          go_wp2_with (first | (go_at_call 120; refine hC.mono ?_; rintro e w2 ⟨rfl, hb2⟩) | (go_at_call 141; refine (hCt _ (hb.trans (hb2.mono hb.size))).mono ?_; rintro e w3 ⟨rfl, rfl⟩))
          go_roundw
          case rel => exact ⟨k + 1, by omega, by go_num, hb.trans (hb2.mono hb.size), HF⟩
          case measure => simp [intOf]; omega
        · have HF : Hid (r = 7) := s2 h1 h2
          rw [h2] at hCt
          clear s1 s2 s3 h1 h2
          go_wp2_with (first | (go_at_call 120; refine hC.mono ?_; rintro e w2 ⟨rfl, hb2⟩) | (go_at_call 141; refine (hCt _ (hb.trans (hb2.mono hb.size))).mono ?_; rintro e w3 ⟨rfl, rfl⟩))
          go_ret
          exact ⟨ret_int (by rw [HF.out]), hb.trans (hb2.mono hb.size)⟩
    · have HF : Hid (r = 0) := by show _ = _; rw [hinv.out, List.drop_eq_nil_of_le (by omega)]; rfl
      have hltI : ¬ (k : Int) < (l.length : Int) := by omega
      clear hinv
      go_wp2
      go_ret
      exact ⟨ret_int (by rw [HF.out]), hb⟩
end Go.Proofs.YtgjllfonmgfhgaaGreatDoor
/- What an entry reads as. -/
namespace Go.Proofs.YtgjllfonmgfhgaaGreatDoor
open Go.RowKit Go.Sort
open Idn (L B Bs)
/-- a value that reads as an entry with these attributes -/
def EntV (w : World) (hi : Nat) (v : Value) (l : List Idn.Att) : Prop := ∃ nm a, v = .agg #[.string nm, a] ∧ AttsV w hi a l
theorem EntV.keep {w w' : World} {hi : Nat} {v : Value} {l : List Idn.Att} (h : EntV w hi v l) (hb : Below hi w w') : EntV w' hi v l := by
  obtain ⟨nm, a, e, h1⟩ := h
  exact ⟨nm, a, e, AttsV.keep h1 hb⟩
theorem EntV.mono {w : World} {hi hi' : Nat} {v : Value} {l : List Idn.Att} (h : EntV w hi v l) (hh : hi ≤ hi') : EntV w hi' v l := by
  obtain ⟨nm, a, e, h1⟩ := h
  exact ⟨nm, a, e, AttsV.mono h1 hh⟩
end Go.Proofs.YtgjllfonmgfhgaaGreatDoor
