/- Part 26 of the proof that identitylaw11.IndexCandidates returns true for every data that it may be called with: proof: the package variables hold what the program lays; nothing else is asked. -/
import Derived.Test.YtbkkchhimhlhcaaGreatDoorIcd03
import Derived.Test.YtbkkchhimhlhcaaGreatDoorIcd16
import Derived.Sort.Walk0
set_option linter.unusedVariables false
set_option linter.unusedSimpArgs false
set_option maxRecDepth 100000
set_option maxHeartbeats 16000000
/- identityref06: has, Insert; identityref07: has. -/
namespace Go.Proofs.YtbkkchhimhlhcaaGreatDoor
open Go.RowKit Go.Sort
open Idn (L B Bs drop_L take_L size_L)
theorem r6_has_any (v : Value) (l : List Bs) (x : ByteArray) (w : World) (hv : StrsV w w.heap.size v l) (hl : l.length ≤ 1000000000) :
  Calls Tryz.prog 201 #[v, .string x] w fun e w' => e = .returned (.bool (l.contains (L x))) ∧ Below w.heap.size w w' := by
 obtain ⟨A, c, rfl, hc⟩ := hv.shape
 generalize hr : l.contains (L x) = r
 have HR : Hid (r = l.contains (L x)) := hr.symm
 clear hr
 go_enter Tryz.func201, Tryz.ntmps201
 go_wp2
 go_loop [5] (fun i => ∃ k : Nat, k ≤ l.length ∧ i = .int .i64 k ∧ Hid (r = (l.drop k).contains (L x))) (fun i => l.length - (intOf i).toNat)
 case atStart => exact ⟨0, Nat.zero_le _, rfl, HR⟩
 case round =>
  obtain ⟨k, hk, rfl, hinv⟩ := hrel
  by_cases hlt : k < l.length
  ·obtain ⟨b, off, rfl, hbl, c0⟩ := StrsV.cell hv hlt
   have hd := List.drop_eq_getElem_cons hlt
   have hltI : (k : Int) < (l.length : Int) := by omega
   by_cases he : l[k] = L x
   ·have HF : Hid (r = true) := by show _ = _; rw [hinv.out, hd, List.contains_cons, he]; simp
    have ht : ((B l[k]).toList == x.toList) = true := str_is (by rw [Idn.L_B, he])
    clear hd he hinv
    go_wp2
    go_ret
    exact ⟨ret_bool HF.out.symm, Below.refl _ _⟩
   ·have HF : Hid (r = (l.drop (k + 1)).contains (L x)) := by
     show _ = _
     rw [hinv.out, hd, List.contains_cons]
     have : (L x == l[k]) = false := by rw [beq_eq_false_iff_ne]; exact fun e => he e.symm
     rw [this, Bool.false_or]
    have ht : ((B l[k]).toList == x.toList) = false := str_not (by rw [Idn.L_B]; exact he)
    clear hd he hinv
    go_wp2
    go_round
    case rel => exact ⟨k + 1, by omega, by go_num, HF⟩
    case measure => simp [intOf]; omega
  ·have HF : Hid (r = false) := by show _ = _; rw [hinv.out, List.drop_eq_nil_of_le (by omega)]; rfl
   have hltI : ¬ (k : Int) < (l.length : Int) := by omega
   clear hinv
   go_wp2
   go_ret
   exact ⟨ret_bool HF.out.symm, Below.refl _ _⟩
theorem pw_drop {l : List Bs} (h : l.Pairwise (· < ·)) {k : Nat} (hk : k < l.length) : ∀ x ∈ l.drop (k + 1), l[k] < x := by
 have h2 : (l.drop k).Pairwise (· < ·) := h.sublist (List.drop_sublist k l)
 rw [List.drop_eq_getElem_cons hk] at h2
 exact (List.pairwise_cons.1 h2).1
theorem r_Insert_any (v : Value) (l : List Bs) (s : ByteArray) (w : World) (hv : StrsV w w.heap.size v l) (hp : l.Pairwise (· < ·)) (hl : l.length ≤ 1000000000000) :
  Calls Tryz.prog 145 #[v, .string s] w (RetS w (Idn.insS (L s) l)) := by
 obtain ⟨A, c, rfl, hc⟩ := hv.shape
 go_enter Tryz.func145, Tryz.ntmps145
 go_wp2
 go_loopw [5, 6, 7] (fun u d i wr => ∃ (k : Nat) (acc : List Bs), k ≤ l.length ∧ i = .int .i64 k ∧ wr.ownsRow w.heap.size 9 1 u acc.length (acc.map sv) ∧ Below w.heap.size w wr ∧ acc.length ≤ k + 1 ∧
  ((d = .bool false ∧ Hid (acc = l.take k) ∧ Hid (∀ (i : Nat) (x : Bs), i < k → l[i]? = some x → x < L s)) ∨ (d = .bool true ∧ Hid (Idn.insS (L s) l = acc ++ l.drop k) ∧ Hid (∀ x ∈ l.drop k, x ≠ L s)))) (fun _ _ i _ => l.length - (intOf i).toNat)
 case atStart => exact ⟨0, [], Nat.zero_le _, rfl, World.ownsRow_nil _ _ _ _, Below.refl _ _, by simp, .inl ⟨rfl, rfl, fun i x h => absurd h (by omega)⟩⟩
 case round =>
  obtain ⟨k, acc, hk, rfl, hown, hb, hal, hcase⟩ := hrel
  have hvr := SlV.keep hv hb
  by_cases hlt : k < l.length
  ·obtain ⟨b, off, rfl, hbl, c0⟩ := StrsV.cell hvr hlt
   have hltI : (k : Int) < (l.length : Int) := by omega
   have hcmp : Op.bytesLess (B l[k]).toList s.toList = decide (l[k] < L s) := by rw [bytesLess_eq, toList_L, toList_L, Idn.L_B]
   have hdk := List.drop_eq_getElem_cons hlt
   have htk := List.take_succ_eq_append_getElem hlt
   rcases hcase with ⟨rfl, h1, h2⟩ | ⟨rfl, h1, h2⟩
   ·by_cases hlt2 : l[k] < L s
    ·have hne : ¬ l[k] = L s := fun e => by rw [e] at hlt2; exact absurd hlt2 (List.lt_irrefl _)
     have ht : ((B l[k]).toList == s.toList) = false := str_not (by rw [Idn.L_B]; exact hne)
     have ht' : ((B l[k]).toList != s.toList) = true := by rw [bne, ht]; rfl
     have H1 : Hid (acc ++ [l[k]] = l.take (k + 1)) := by show _ = _; rw [htk, h1.out]
     have H2 : Hid (∀ (i : Nat) (x : Bs), i < k + 1 → l[i]? = some x → x < L s) := by
      intro i x hi hxi
      by_cases e : i = k
      ·subst e
       rw [List.getElem?_eq_getElem hlt] at hxi
       injection hxi with hxi
       exact hxi ▸ hlt2
      ·exact h2.out i x (by omega) hxi
     rw [decide_eq_true hlt2] at hcmp
     clear h1 h2 hdk htk hne hlt2
     go_wp2_with (at_builtin; refine wpList_push wr rfl _ _ 26 rfl w.heap.size 9 (.string ⟨#[]⟩) 1 16 Tryz.underlying26 info_str rfl (by decide) _ _ _ hown rfl [.string (B l[k])] rfl rfl (by intro u hu; simp at hu; subst hu; rfl) (by omega) hb.size ?_ rfl)
     intro v1 x1 ho1 _ _ hx1 _
     go_wp2
     go_roundw
     case rel => exact ⟨k + 1, acc ++ [l[k]], by omega, by go_num, by simpa [sv] using ho1, hb.trans hx1, by simp; omega, .inl ⟨rfl, H1, H2⟩⟩
     case measure => simp [intOf]; omega
    ·rw [decide_eq_false hlt2] at hcmp
     have hpk := pw_drop hp hlt
     by_cases hne : l[k] = L s
     ·have ht : ((B l[k]).toList == s.toList) = true := str_is (by rw [Idn.L_B]; exact hne)
      have ht' : ((B l[k]).toList != s.toList) = false := by rw [bne, ht]; rfl
      have H1 : Hid (Idn.insS (L s) l = (acc ++ [L s]) ++ l.drop (k + 1)) := by
       show _ = _
       rw [Idn.insS_here (L s) l k h2.out (by rw [List.getElem?_eq_getElem hlt, hne]), h1.out, List.append_assoc, ← hne]
       show l = l.take k ++ (l[k] :: l.drop (k + 1))
       rw [← hdk, List.take_append_drop]
      have H2 : Hid (∀ x ∈ l.drop (k + 1), x ≠ L s) := fun x hx e => by
       have := hpk x hx
       rw [hne, e] at this
       exact List.lt_irrefl _ this
      clear h1 h2 hdk htk hne hlt2 hpk
      go_wp2_with (at_builtin; refine wpList_push wr rfl _ _ 26 rfl w.heap.size 9 (.string ⟨#[]⟩) 1 16 Tryz.underlying26 info_str rfl (by decide) _ _ _ hown rfl [.string s] rfl rfl (by intro u hu; simp at hu; subst hu; rfl) (by omega) hb.size ?_ rfl)
      intro v1 x1 ho1 _ _ hx1 _
      have d0 := (hx1.cell (p := ⟨b, off + k, none⟩) hbl).trans c0
      clear c0
      go_wp2
      go_roundw
      case rel => exact ⟨k + 1, acc ++ [L s], by omega, by go_num, by simpa [sv, Idn.B_L] using ho1, hb.trans hx1, by simp; omega, .inr ⟨rfl, H1, H2⟩⟩
      case measure => simp [intOf]; omega
     ·have ht : ((B l[k]).toList == s.toList) = false := str_not (by rw [Idn.L_B]; exact hne)
      have ht' : ((B l[k]).toList != s.toList) = true := by rw [bne, ht]; rfl
      have hgt : L s < l[k] := Idn.lt_of _ _ hlt2 hne
      have H1 : Hid (Idn.insS (L s) l = (acc ++ [L s, l[k]]) ++ l.drop (k + 1)) := by
       show _ = _
       rw [Idn.insS_at (L s) l k hk h2.out (fun x hx => by rw [List.getElem?_eq_getElem hlt] at hx; injection hx with hx; subst hx; exact ⟨hlt2, hne⟩), h1.out, List.append_assoc, hdk]
       rfl
      have H2 : Hid (∀ x ∈ l.drop (k + 1), x ≠ L s) := fun x hx e => by
       have := List.lt_trans hgt (hpk x hx)
       rw [e] at this
       exact List.lt_irrefl _ this
      have halk : acc.length ≤ k := by rw [h1.out, List.length_take]; omega
      clear h1 h2 hdk htk hne hlt2 hpk hgt
      go_wp2_with (at_builtin; refine wpList_push wr rfl _ _ 26 rfl w.heap.size 9 (.string ⟨#[]⟩) 1 16 Tryz.underlying26 info_str rfl (by decide) _ _ _ hown rfl [.string s] rfl rfl (by intro u hu; simp at hu; subst hu; rfl) (by omega) hb.size ?_ rfl)
      intro v1 x1 ho1 _ _ hx1 _
      have d0 := (hx1.cell (p := ⟨b, off + k, none⟩) hbl).trans c0
      have hbx := hb.trans hx1
      clear c0
      go_wp2_with (at_builtin; refine wpList_push x1 rfl _ _ 26 rfl w.heap.size 9 (.string ⟨#[]⟩) 1 16 Tryz.underlying26 info_str rfl (by decide) _ _ _ ho1 rfl [.string (B l[k])] rfl rfl (by intro u hu; simp at hu; subst hu; rfl) (by omega) hbx.size ?_ rfl)
      intro v2 x2 ho2 _ _ hx2 _
      go_wp2
      go_roundw
      case rel => exact ⟨k + 1, acc ++ [L s, l[k]], by omega, by go_num, by simpa [sv, Idn.B_L, Nat.add_assoc] using ho2, hbx.trans hx2, by simp; omega, .inr ⟨rfl, H1, H2⟩⟩
      case measure => simp [intOf]; omega
   ·have hne : ¬ l[k] = L s := h2.out l[k] (by rw [hdk]; exact List.mem_cons_self)
    have ht : ((B l[k]).toList == s.toList) = false := str_not (by rw [Idn.L_B]; exact hne)
    have ht' : ((B l[k]).toList != s.toList) = true := by rw [bne, ht]; rfl
    have H1 : Hid (Idn.insS (L s) l = (acc ++ [l[k]]) ++ l.drop (k + 1)) := by show _ = _; rw [h1.out, hdk, List.append_assoc]; rfl
    have H2 : Hid (∀ x ∈ l.drop (k + 1), x ≠ L s) := fun x hx => h2.out x (by rw [hdk]; exact List.mem_cons_of_mem _ hx)
    clear h1 h2 hdk htk hne hcmp
    go_wp2_with (at_builtin; refine wpList_push wr rfl _ _ 26 rfl w.heap.size 9 (.string ⟨#[]⟩) 1 16 Tryz.underlying26 info_str rfl (by decide) _ _ _ hown rfl [.string (B l[k])] rfl rfl (by intro u hu; simp at hu; subst hu; rfl) (by omega) hb.size ?_ rfl)
    intro v1 x1 ho1 _ _ hx1 _
    go_wp2
    go_roundw
    case rel => exact ⟨k + 1, acc ++ [l[k]], by omega, by go_num, by simpa [sv] using ho1, hb.trans hx1, by simp; omega, .inr ⟨rfl, H1, H2⟩⟩
    case measure => simp [intOf]; omega
  ·have hltI : ¬ (k : Int) < (l.length : Int) := by omega
   rcases hcase with ⟨rfl, h1, h2⟩ | ⟨rfl, h1, h2⟩
   ·have H1 : Hid (Idn.insS (L s) l = acc ++ [L s]) := by
     show _ = _
     rw [Idn.insS_at (L s) l k hk h2.out (fun x hx => by rw [List.getElem?_eq_none (by omega)] at hx; cases hx), h1.out, List.drop_eq_nil_of_le (by omega)]
    clear h1 h2
    go_wp2_with (at_builtin; refine wpList_push wr rfl _ _ 26 rfl w.heap.size 9 (.string ⟨#[]⟩) 1 16 Tryz.underlying26 info_str rfl (by decide) _ _ _ hown rfl [.string s] rfl rfl (by intro u hu; simp at hu; subst hu; rfl) (by omega) hb.size ?_ rfl)
    intro v1 x1 ho1 _ _ hx1 _
    go_wp2
    go_ret
    exact ⟨_, rfl, by rw [H1.out]; simpa [sv, Idn.B_L] using ho1, hb.trans hx1⟩
   ·have H1 : Hid (Idn.insS (L s) l = acc) := by show _ = _; rw [h1.out, List.drop_eq_nil_of_le (by omega), List.append_nil]
    clear h1 h2
    go_wp2
    go_ret
    exact ⟨_, rfl, by rw [H1.out]; exact hown, hb⟩
end Go.Proofs.YtbkkchhimhlhcaaGreatDoor
