/- Part 42 of the proof that SchemaLooks returns true for every schema and every name: the package variables hold what the program lays; nothing else is asked. -/
import Derived.Test.YtoelhiccofpgfaaGreatDoorLk04
import Derived.Test.YtoelhiccofpgfaaGreatDoorLk18
/- law07: few. -/
namespace Go.Proofs.YtoelhiccofpgfaaGreatDoor
open Go.RowKit Go.Sort
open Idn (L B Bs drop_L take_L size_L)

def fewC (c : Idn.Cl) : Bool := decide (c.name.length ≤ 70) && (decide (c.super.length ≤ 70) && (short c.must && short c.may))
def few (s : Idn.Sch) : Bool := s.types.all (fun t => decide (t.name.length ≤ 70)) && (s.classes.all fewC && (decide (s.types.length ≤ 70) && decide (s.classes.length ≤ 40)))
set_option maxHeartbeats 1000000 in
set_option maxRecDepth 100000 in
theorem few_any (v : Value) (s : Idn.Sch) (w : World) (hv : SchV w w.heap.size v s) (ht : s.types.length ≤ 9223372036854775807) (hc : s.classes.length ≤ 9223372036854775807) (hm : ∀ c ∈ s.classes, c.must.length ≤ 9223372036854775807 ∧ c.may.length ≤ 9223372036854775807) :
    Calls Tryz.prog 5 #[v] w fun e w' => e = .returned (.bool (few s)) ∧ Below w.heap.size w w' := by
  obtain ⟨a, b, rfl, hT, hC⟩ := hv
  obtain ⟨A, ca, rfl, hca⟩ := SlV.shape hT
  obtain ⟨A', cb, rfl, hcb⟩ := SlV.shape hC
  generalize hr : few s = r
  have hR := Lib.hid hr
  clear hr
  go_enter Tryz.func5, Tryz.ntmps5
  go_wp2
  with_reducible refine gen1 (R := fun W => Code.wp Tryz.prog _ _ _ W) ?_
  intro W hbW hszW hc1 _
  have b0 := hc1 0 _ rfl
  have b1 := hc1 1 _ rfl
  clear hc1
  go_loop [3] (fun i => ∃ k : Nat, k ≤ s.types.length ∧ i = .int .i64 k ∧ Hid (s.types.all (fun t => decide (t.name.length ≤ 70)) = (s.types.drop k).all (fun t => decide (t.name.length ≤ 70)))) (fun i => s.types.length - (intOf i).toNat)
  case atStart => exact ⟨0, Nat.zero_le _, rfl, by show _ = _; simp⟩
  case round =>
    obtain ⟨k, hk, rfl, hinv⟩ := hrel
    by_cases hlt : k < s.types.length
    · obtain ⟨b, off, rfl, hbl, c0, _, _⟩ := TypesV.cell (SlV.keep hT hbW) hlt
      have hd := List.drop_eq_getElem_cons hlt
      have hltI : (k : Int) < (s.types.length : Int) := by omega
      have hsz := Idn.size_B s.types[k].name
      by_cases he : s.types[k].name.length ≤ 70
      · have HF : Hid (s.types.all (fun t => decide (t.name.length ≤ 70)) = (s.types.drop (k + 1)).all (fun t => decide (t.name.length ≤ 70))) := by show _ = _; rw [hinv.out, hd, List.all_cons, decide_eq_true he, Bool.true_and]
        have h1 : ((B s.types[k].name).size : Int) ≤ 70 := by omega
        clear hd hsz he hinv
        go_wp2
        go_round
        case rel => exact ⟨k + 1, by omega, by go_num, HF⟩
        case measure => simp [intOf]; omega
      · have HF : Hid (r = false) := by show _ = _; rw [← hR.out, few, hinv.out, hd, List.all_cons, decide_eq_false he]; rfl
        have h1 : (70 : Int) < ((B s.types[k].name).size : Int) := by omega
        clear hd hsz he hinv
        go_wp2
        go_ret
        exact ⟨ret_bool (by rw [HF.out]), hbW⟩
    · have hA : Hid (r = (s.classes.all fewC && (decide (s.types.length ≤ 70) && decide (s.classes.length ≤ 40)))) := by show _ = _; rw [← hR.out, few, hinv.out, List.drop_eq_nil_of_le (by omega)]; rfl
      have hltI : ¬ (k : Int) < (s.types.length : Int) := by omega
      clear hinv hR
      go_wp2
      clear hltI hlt
      go_loopw [4] (fun i wr => ∃ k : Nat, k ≤ s.classes.length ∧ i = .int .i64 k ∧ Below W.heap.size W wr ∧ Hid (s.classes.all fewC = (s.classes.drop k).all fewC)) (fun i _ => s.classes.length - (intOf i).toNat)
      case atStart => exact ⟨0, Nat.zero_le _, rfl, Below.refl _ _, by show _ = _; simp⟩
      case round =>
        obtain ⟨k, hk, rfl, hb, hinv⟩ := hrel
        replace b0 := cell_later hb b0
        replace b1 := cell_later hb b1
        by_cases hlt : k < s.classes.length
        · obtain ⟨b, off, vm, vn, rfl, hbl, c0, c1, c2, c3, hm', hn'⟩ := ClassesV.cell hC hlt
          obtain ⟨Am, cm, rfl, hcm⟩ := SlV.shape hm'
          obtain ⟨An, cn, rfl, hcn⟩ := SlV.shape hn'
          have hbw := hbW.trans (hb.mono hbW.size)
          obtain ⟨hx1, hx2⟩ := hm s.classes[k] (List.getElem_mem hlt)
          have hSm := fun W' (hW' : Below w.heap.size w W') => short_any _ s.classes[k].must W' (SlV.mono (SlV.keep hm' hW') hW'.size) hx1
          have hSn := fun W' (hW' : Below w.heap.size w W') => short_any _ s.classes[k].may W' (SlV.mono (SlV.keep hn' hW') hW'.size) hx2
          replace c0 := cell_later hbw c0
          replace c1 := cell_later hbw c1
          replace c2 := cell_later hbw c2
          replace c3 := cell_later hbw c3
          have hd := List.drop_eq_getElem_cons hlt
          have hltI : (k : Int) < (s.classes.length : Int) := by omega
          have ba := (Below.refl wr.heap.size wr).alloc (Nat.le_refl _) (.cells #[.string (B s.classes[k].name), .string (B s.classes[k].super), .slice Am s.classes[k].must.length cm, .slice An s.classes[k].may.length cn] 40)
          obtain ⟨⟨d0, d1, d2, d3⟩, _, _⟩ := fourA wr (.string (B s.classes[k].name)) (.string (B s.classes[k].super)) (.slice Am s.classes[k].must.length cm) (.slice An s.classes[k].may.length cn) 40
          have hbA := hb.trans (ba.mono hb.size)
          have hz1 := Idn.size_B s.classes[k].name
          have hz2 := Idn.size_B s.classes[k].super
          have hq : s.classes.all fewC = (fewC s.classes[k] && (s.classes.drop (k + 1)).all fewC) := by rw [hinv.out, hd, List.all_cons]
          clear ba hd hinv hbw
          by_cases n1 : s.classes[k].name.length ≤ 70
          case neg =>
            have HF : Hid (r = false) := by show _ = _; rw [hA.out, hq, fewC, decide_eq_false n1]; rfl
            have h1 : (70 : Int) < ((B s.classes[k].name).size : Int) := by omega
            clear hq n1 hz1 hz2
            go_wp2
            go_ret
            exact ⟨ret_bool (by rw [HF.out]), hbW.trans (hbA.mono hbW.size)⟩
          have h1 : ((B s.classes[k].name).size : Int) ≤ 70 := by omega
          by_cases n2 : s.classes[k].super.length ≤ 70
          case neg =>
            have HF : Hid (r = false) := by show _ = _; rw [hA.out, hq, fewC, decide_eq_true n1, decide_eq_false n2]; rfl
            have h2 : (70 : Int) < ((B s.classes[k].super).size : Int) := by omega
            clear hq n1 n2 hz1 hz2
            go_wp2
            go_ret
            exact ⟨ret_bool (by rw [HF.out]), hbW.trans (hbA.mono hbW.size)⟩
          have h2 : ((B s.classes[k].super).size : Int) ≤ 70 := by omega
          have hq2 : Hid (s.classes.all fewC = ((short s.classes[k].must && short s.classes[k].may) && (s.classes.drop (k + 1)).all fewC)) := by show _ = _; rw [hq, fewC, decide_eq_true n1, decide_eq_true n2]; rfl
          clear hq n1 n2 hz1 hz2
          cases n3 : short s.classes[k].must
          · have HF : Hid (r = false) := by show _ = _; rw [hA.out, hq2.out, n3]; rfl
            rw [n3] at hSm
            go_wp2_with (go_at_call 18; (first | with_reducible refine (hSm _ (hbW.trans (hbA.mono hbW.size))).mono ?_ | with_reducible refine (hSn _ (hbW.trans (hbA.mono hbW.size))).mono ?_); rintro e w5 ⟨rfl, hb5⟩; replace d2 := cell_later hb5 d2; replace d3 := cell_later hb5 d3; replace hbA := hbA.trans (hb5.mono hbA.size))
            go_ret
            exact ⟨ret_bool (by rw [HF.out]), hbW.trans (hbA.mono hbW.size)⟩
          rw [n3] at hSm
          cases n4 : short s.classes[k].may
          · have HF : Hid (r = false) := by show _ = _; rw [hA.out, hq2.out, n3, n4]; rfl
            rw [n4] at hSn
            go_wp2_with (go_at_call 18; (first | with_reducible refine (hSm _ (hbW.trans (hbA.mono hbW.size))).mono ?_ | with_reducible refine (hSn _ (hbW.trans (hbA.mono hbW.size))).mono ?_); rintro e w5 ⟨rfl, hb5⟩; replace d2 := cell_later hb5 d2; replace d3 := cell_later hb5 d3; replace hbA := hbA.trans (hb5.mono hbA.size))
            go_ret
            exact ⟨ret_bool (by rw [HF.out]), hbW.trans (hbA.mono hbW.size)⟩
          rw [n4] at hSn
          have HF : Hid (s.classes.all fewC = (s.classes.drop (k + 1)).all fewC) := by show _ = _; rw [hq2.out, n3, n4]; rfl
          go_wp2_with (go_at_call 18; (first | with_reducible refine (hSm _ (hbW.trans (hbA.mono hbW.size))).mono ?_ | with_reducible refine (hSn _ (hbW.trans (hbA.mono hbW.size))).mono ?_); rintro e w5 ⟨rfl, hb5⟩; replace d2 := cell_later hb5 d2; replace d3 := cell_later hb5 d3; replace hbA := hbA.trans (hb5.mono hbA.size))
          go_roundw
          case rel => exact ⟨k + 1, by omega, by go_num, hbA, HF⟩
          case measure => simp [intOf]; omega
        · have HF : Hid (r = (decide (s.types.length ≤ 70) && decide (s.classes.length ≤ 40))) := by show _ = _; rw [hA.out, hinv.out, List.drop_eq_nil_of_le (by omega)]; rfl
          have hltI : ¬ (k : Int) < (s.classes.length : Int) := by omega
          have hdd : decide (s.types.length ≤ 70) = decide ((s.types.length : Int) ≤ 70) := by simp; omega
          have hee : decide (s.classes.length ≤ 40) = decide ((s.classes.length : Int) ≤ 40) := by simp; omega
          clear hinv hlt
          have hbw := hbW.trans (hb.mono hbW.size)
          by_cases h1 : (s.types.length : Int) ≤ 70
          · have HG : Hid (r = decide ((s.classes.length : Int) ≤ 40)) := by show _ = _; rw [HF.out, hdd, hee, decide_eq_true h1]; rfl
            clear hdd hee HF hA
            go_wp2
            go_ret
            exact ⟨ret_bool (by rw [HG.out]), hbw⟩
          · have HG : Hid (r = false) := by show _ = _; rw [HF.out, hdd, decide_eq_false h1]; rfl
            have h1' : decide ((s.types.length : Int) ≤ 70) = false := decide_eq_false h1
            clear hdd hee HF hA h1
            go_wp2
            go_ret
            exact ⟨ret_bool (by rw [HG.out]), hbw⟩
end Go.Proofs.YtoelhiccofpgfaaGreatDoor
