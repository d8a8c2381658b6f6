/- Part 24 of the proof that identitylaw11.IndexComplete returns true at every schema, list of names and case within the bound: the package variables hold what the program lays; nothing else is asked. -/
import Derived.Test.YtgjllfonmgfhgaaGreatDoorIct04
import Derived.Test.YtgjllfonmgfhgaaGreatDoorIct15
import Derived.Sort.Walk0
import Derived.Lib.Hide
set_option linter.unusedVariables false
set_option linter.unusedSimpArgs false
/- identityref06: has, Insert; identityref07: has. -/
namespace Go.Proofs.YtgjllfonmgfhgaaGreatDoor
open Go.RowKit Go.Sort
open Idn (L B Bs drop_L take_L size_L)
set_option maxRecDepth 100000 in
theorem r6_has_any (v : Value) (l : List Bs) (x : ByteArray) (w : World) (hv : StrsV w w.heap.size v l) (hl : l.length ≤ 1000000000) :
    Calls Tryz.prog 147 #[v, .string x] w fun e w' => e = .returned (.bool (l.contains (L x))) ∧ Below w.heap.size w w' := by
  obtain ⟨A, c, rfl, hc⟩ := hv.shape
  generalize hr : l.contains (L x) = r
  have HR : Hid (r = l.contains (L x)) := hr.symm
  clear hr
  go_enter Tryz.func147, Tryz.ntmps147
  go_wp2
  go_loop [5] (fun i => ∃ k : Nat, k ≤ l.length ∧ i = .int .i64 k ∧ Hid (r = (l.drop k).contains (L x))) (fun i => l.length - (intOf i).toNat)
  case atStart => exact ⟨0, Nat.zero_le _, rfl, HR⟩
  case round =>
    obtain ⟨k, hk, rfl, hinv⟩ := hrel
    by_cases hlt : k < l.length
    · obtain ⟨b, off, rfl, hbl, c0⟩ := StrsV.cell hv hlt
      have hd := List.drop_eq_getElem_cons hlt
      have hltI : (k : Int) < (l.length : Int) := by omega
      by_cases he : l[k] = L x
      · have HF : Hid (r = true) := by show _ = _; rw [hinv.out, hd, List.contains_cons, he]; simp
        have ht : ((B l[k]).toList == x.toList) = true := str_is (by rw [Idn.L_B, he])
        clear hd he hinv
        go_wp2
        go_ret
        exact ⟨ret_bool HF.out.symm, Below.refl _ _⟩
      · have HF : Hid (r = (l.drop (k + 1)).contains (L x)) := by
          show _ = _
          rw [hinv.out, hd, List.contains_cons]
          have : (L x == l[k]) = false := by rw [beq_eq_false_iff_ne]; exact fun e => he e.symm
          rw [this, Bool.false_or]
        have ht : ((B l[k]).toList == x.toList) = false := str_not (by rw [Idn.L_B]; exact he)
        clear hd he hinv
        go_wp2
        go_round
        case rel => exact ⟨k + 1, by omega, by go_num, HF⟩
        case measure => simp [intOf]; omega
    · have HF : Hid (r = false) := by show _ = _; rw [hinv.out, List.drop_eq_nil_of_le (by omega)]; rfl
      have hltI : ¬ (k : Int) < (l.length : Int) := by omega
      clear hinv
      go_wp2
      go_ret
      exact ⟨ret_bool HF.out.symm, Below.refl _ _⟩
end Go.Proofs.YtgjllfonmgfhgaaGreatDoor
