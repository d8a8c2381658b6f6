/- Part 47 of the proof that identitylaw08.EntryApplies returns true: the package variables hold what the program lays; nothing else is asked. -/
import Derived.Test.YtoopoglkeeoamaaGreatDoorEap45
import Derived.Test.YtoopoglkeeoamaaGreatDoorEap46
set_option linter.unusedVariables false
set_option linter.unusedSimpArgs false
set_option maxRecDepth 100000
set_option maxHeartbeats 8000000
/- entry: same. -/
namespace Go.Proofs.YtoopoglkeeoamaaGreatDoor
open Go.RowKit Go.Sort
open Idn (L B Bs drop_L take_L size_L)
theorem mapB_eq (a b : List Bs) : decide ((a.map B).take a.length = (b.map B).take b.length) = (a == b) := by
 rw [List.take_of_length_le (by simp), List.take_of_length_le (by simp)]
 have : a.map B = b.map B ↔ a = b := ⟨fun h => by
  have h2 := congrArg (List.map L) h
  simpa [List.map_map, Function.comp_def, Idn.L_B] using h2, fun h => by rw [h]⟩
 by_cases h : a = b
 ·subst h; simp
 ·rw [decide_eq_false (fun e => h (this.1 e))]; exact (beq_eq_false_iff_ne.2 h).symm
theorem equalS_any (v u : Value) (a b : List Bs) (w : World) (hi hi' : Nat) (hv : StrsV w hi v a) (hu : StrsV w hi' u b) (ha : a.length ≤ 1000000000) (hb : b.length ≤ 1000000000) :
  Calls Tryz.prog 113 #[v, u] w fun e w' => e = .returned (.bool (a == b)) ∧ ∃ q, w' = w.drewN q := by
 obtain ⟨A, c, rfl, hc⟩ := hv.shape
 obtain ⟨A2, c2, rfl, hc2⟩ := hu.shape
 by_cases h0 : a.length = b.length
 ·by_cases h1 : a.length = 0
  ·have ha0 : a = [] := List.eq_nil_of_length_eq_zero h1
   subst ha0
   have hb0 : b = [] := List.eq_nil_of_length_eq_zero (h0 ▸ h1)
   subst hb0
   exact (Tryz.slices_Equal_string_empty A A2 c 0 c2 w (by omega)).mono fun e w' ⟨h1, h2⟩ => ⟨h1, 0, h2⟩
  ·obtain ⟨b1, o1, rfl, hb1, _⟩ := StrsV.cell hv (k := 0) (by omega)
   obtain ⟨b2, o2, rfl, hb2, _⟩ := StrsV.cell hu (k := 0) (by omega)
   have h := Tryz.slices_Equal_string b1 o1 a.length c b2 o2 b.length c2 (a.map B) (b.map B) w (by simp) (by simp) (by omega) (by omega) (fun j hj => ?_) (fun j hj => ?_)
   ·rw [mapB_eq] at h; exact h
   ·rw [List.length_map] at hj
    obtain ⟨b', off', hA', _, hcc⟩ := StrsV.cell hv hj
    injection hA' with hA'
    injection hA' with h1 h2
    subst h1 h2
    rw [hcc]
    simp [List.getD_eq_getElem?_getD, hj]
   ·rw [List.length_map] at hj
    obtain ⟨b', off', hA', _, hcc⟩ := StrsV.cell hu hj
    injection hA' with hA'
    injection hA' with h1 h2
    subst h1 h2
    rw [hcc]
    simp [List.getD_eq_getElem?_getD, hj]
 ·have e : (a == b) = false := beq_eq_false_iff_ne.2 fun e => h0 (by rw [e])
  rw [e]
  exact (Tryz.slices_Equal_string_lens A A2 a.length c b.length c2 w h0).mono fun e w' ⟨h1, h2⟩ => ⟨h1, 0, h2⟩
theorem below_drew0 (w : World) (q : Nat) : Below w.heap.size w (w.drewN q) := by
 have h := below_drewn w q #[]
 rwa [grow_empty] at h
theorem esame1_any (x y : Bs) (v u : Value) (a b : List Bs) (w : World) (hi hi' : Nat) (hv : StrsV w hi v a) (hu : StrsV w hi' u b) (hhi : hi ≤ w.heap.size) (hhi' : hi' ≤ w.heap.size) (ha : a.length ≤ 1000000000) (hb : b.length ≤ 1000000000) :
  Calls Tryz.prog 112 #[.agg #[.string (B x), v], .agg #[.string (B y), u]] w fun e w' => e = .returned (.bool (x == y && a == b)) ∧ ∃ q os', w' = grow (w.drewN q) os' := by
 obtain ⟨A, c, rfl, hc⟩ := hv.shape
 obtain ⟨A2, c2, rfl, hc2⟩ := hu.shape
 have hE := fun W (hW : Below w.heap.size w W) => equalS_any _ _ a b W _ _ ((hv.mono hhi).keep hW) ((hu.mono hhi').keep hW) ha hb
 go_enter Tryz.func112, Tryz.ntmps112
 go_upto_region 1 with fail
 with_reducible refine gen2D (R := fun W => Code.wp Tryz.prog _ _ _ W) ?_
 intro W hbW hdr hc1 hc2
 have x0 : W.cell? ⟨w.heap.size, 0, none⟩ = some (.string (B x)) := hc1 0 _ rfl
 have x1 : W.cell? ⟨w.heap.size, 1, none⟩ = some (.slice A a.length c) := hc1 1 _ rfl
 have y0 : W.cell? ⟨w.heap.size + 1, 0, none⟩ = some (.string (B y)) := hc2 0 _ rfl
 have y1 : W.cell? ⟨w.heap.size + 1, 1, none⟩ = some (.slice A2 b.length c2) := hc2 1 _ rfl
 have hE0 := hE W hbW
 have HD := Lib.hid hdr
 clear hdr hc1 hc2 hE
 by_cases h : x = y
 ·subst h
  go_wp2_with fail
  refine hE0.mono ?_
  rintro e w2 ⟨rfl, q, rfl⟩
  go_wp2
  go_ret
  refine ⟨by simp, grown_form (hbW.trans ((below_drew0 W q).mono hbW.size)) ?_⟩
  show w.drawn ≤ W.drawn + q
  have := HD.out
  omega
 ·have hne : ¬ (B x).toList = (B y).toList := by rw [toList_L, toList_L, Idn.L_B, Idn.L_B]; exact h
  have ht : ((B x).toList == (B y).toList) = false := beq_eq_false_iff_ne.2 hne
  have hxy : (x == y) = false := beq_eq_false_iff_ne.2 h
  go_wp2_with fail
  go_ret
  refine ⟨by rw [hxy]; rfl, grown_form hbW ?_⟩
  have := HD.out
  omega
end Go.Proofs.YtoopoglkeeoamaaGreatDoor
/- entry: same, the loop. -/
namespace Go.Proofs.YtoopoglkeeoamaaGreatDoor
open Go.RowKit Go.Sort
open Idn (L B Bs drop_L take_L size_L)
theorem no_true {r : Bool} {p : Prop} (h : r = true ↔ p) (hn : ¬ p) : r = false := by cases r with
 | false => rfl
 | true => exact absurd (h.1 rfl) hn
theorem att_ext {a b : Idn.Att} (h1 : a.name = b.name) (h2 : a.vals = b.vals) : a = b := by cases a; cases b; simp_all
theorem equalA_any (v u : Value) (l m : List Idn.Att) (r : Bool) (hr : r = true ↔ l = m) (w : World) (hv : AttsV w w.heap.size v l) (hu : AttsV w w.heap.size u m) (hl : l.length ≤ 1000000) (hm : m.length ≤ 1000000) (hl2 : ∀ x ∈ l, x.vals.length ≤ 1000000000) (hm2 : ∀ x ∈ m, x.vals.length ≤ 1000000000) :
  Calls Tryz.prog 111 #[v, u, .func (.func 112) #[] #[]] w fun e w' => e = .returned (.bool r) ∧ Below w.heap.size w w' := by
 obtain ⟨A, c, rfl, hc⟩ := SlV.shape hv
 obtain ⟨A2, c2, rfl, hc2⟩ := SlV.shape hu
 go_enter Tryz.func111, Tryz.ntmps111
 by_cases h0 : l.length = m.length
 ·have h0I : ((l.length : Int) != (m.length : Int)) = false := by rw [h0]; simp
  have H0 := Lib.hid h0
  have HRR := Lib.hid hr
  clear h0 hr
  go_wp2_with fail
  go_loopw [17] (fun i wr => ∃ (k : Nat), k ≤ l.length ∧ i = .int .i64 k ∧ Below w.heap.size w wr ∧ Hid (l.take k = m.take k)) (fun i _ => l.length - (intOf i).toNat)
  case atStart => exact ⟨0, Nat.zero_le _, rfl, Below.refl _ _, rfl⟩
  case round =>
   obtain ⟨k, hk, rfl, hb, hinv⟩ := hrel
   obtain ⟨wo, hwo⟩ : ∃ wo : World, wo = wr := ⟨_, rfl⟩
   subst hwo
   by_cases hlt : k < l.length
   ·have h0' : k < m.length := by have := H0.out; omega
    obtain ⟨b1, o1, v1, hA, hb1, d0, d1, ds⟩ := AttsV.cell (hv.keep hb) hlt
    obtain ⟨b2, o2, v2, hA2, hb2, e0, e1, es⟩ := AttsV.cell (hu.keep hb) h0'
    subst hA hA2
    obtain ⟨Av, cv, rfl, _⟩ := ds.shape
    obtain ⟨Aw, cw, rfl, _⟩ := es.shape
    have hltI : (k : Int) < (l.length : Int) := by omega
    have hltJ : (k : Int) < (m.length : Int) := by omega
    have hC := fun (W : World) (hW : Below w.heap.size wo W) => esame1_any l[k].name (m[k]'h0').name _ _ l[k].vals (m[k]'h0').vals W w.heap.size w.heap.size (ds.keep hW) (es.keep hW) (Nat.le_trans hb.size hW.size) (Nat.le_trans hb.size hW.size) (hl2 _ (List.getElem_mem _)) (hm2 _ (List.getElem_mem _))
    have hfl : (l[k].name == (m[k]'h0').name && l[k].vals == (m[k]'h0').vals) = false → l ≠ m := fun h e => by subst e; simp at h
    have htr : (l[k].name == (m[k]'h0').name && l[k].vals == (m[k]'h0').vals) = true → Hid (l.take (k + 1) = m.take (k + 1)) := fun h => by
     rw [Bool.and_eq_true, beq_iff_eq, beq_iff_eq] at h
     show _ = _
     rw [List.take_succ_eq_append_getElem hlt, List.take_succ_eq_append_getElem h0', hinv.out, att_ext h.1 h.2]
    clear hinv
    generalize (l[k].name == (m[k]'h0').name && l[k].vals == (m[k]'h0').vals) = bb at *
    generalize l[k].name = n1 at *
    generalize (m[k]'h0').name = n2 at *
    generalize l[k].vals.length = z1 at *
    generalize (m[k]'h0').vals.length = z2 at *
    go_upto_region 6 with fail
    with_reducible refine gen1 (R := fun W => Code.wp Tryz.prog _ _ _ W) ?_
    intro W6 hbW6 hszW6 hc6 _
    have x0 : W6.cell? ⟨wo.heap.size, 0, none⟩ = some (.string (B n1)) := hc6 0 _ rfl
    have x1 : W6.cell? ⟨wo.heap.size, 1, none⟩ = some (.slice Av z1 cv) := hc6 1 _ rfl
    replace e0 := cell_later hbW6 e0
    replace e1 := cell_later hbW6 e1
    clear hc6 d0 d1 hszW6
    go_upto_region 7 with fail
    with_reducible refine gen1 (R := fun W => Code.wp Tryz.prog _ _ _ W) ?_
    intro W7 hbW7 hszW7 hc7 _
    have y0 : W7.cell? ⟨W6.heap.size, 0, none⟩ = some (.string (B n2)) := hc7 0 _ rfl
    have y1 : W7.cell? ⟨W6.heap.size, 1, none⟩ = some (.slice Aw z2 cw) := hc7 1 _ rfl
    replace x0 := cell_later hbW7 x0
    replace x1 := cell_later hbW7 x1
    have hB2 : Below w.heap.size wo W7 := (hbW6.trans (hbW7.mono hbW6.size)).mono hb.size
    clear hc7 e0 e1 hszW7 hbW6 hbW7 ds es
    go_wp2_with fail
    refine (hC W7 hB2).mono ?_
    rintro e w2 ⟨rfl, q, os, rfl⟩
    have hb7 := (hb.trans hB2).trans ((below_drewn W7 q os).mono (hb.trans hB2).size)
    generalize grow (W7.drewN q) os = w2 at *
    clear hC x0 x1 y0 y1
    cases bb
    ·have HN := Lib.hid (no_true HRR.out (hfl rfl))
     clear hfl htr
     go_wp2_with fail
     go_ret
     exact ⟨ret_bool HN.out.symm, hb7⟩
    ·have HF := htr rfl
     clear hfl htr
     go_wp2_with fail
     go_roundw
     case rel => exact ⟨k + 1, by omega, by go_num, hb7, HF⟩
     case measure => simp [intOf]; omega
   ·have hltI : ¬ (k : Int) < (l.length : Int) := by omega
    have hltJ : ¬ (k : Int) < (m.length : Int) := by have := H0.out; omega
    have HF : Hid (r = true) := HRR.out.2 (by
     have h1 := hinv.out
     have h2 := H0.out
     rwa [List.take_of_length_le (by omega), List.take_of_length_le (by omega)] at h1)
    clear hinv
    go_wp2_with fail
    go_ret
    exact ⟨ret_bool HF.out.symm, hb⟩
 ·have h0I : ((l.length : Int) != (m.length : Int)) = true := by rw [bne_iff_ne]; omega
  have HF := Lib.hid (no_true hr fun h => h0 (by rw [h]))
  go_wp2_with fail
  go_ret
  exact ⟨ret_bool HF.out.symm, Below.refl _ _⟩
theorem esame_any (v u : Value) (l m : List Idn.Att) (r : Bool) (hr : r = true ↔ l = m) (w : World) (hv : AttsV w w.heap.size v l) (hu : AttsV w w.heap.size u m) (hl : l.length ≤ 1000000) (hm : m.length ≤ 1000000) (hl2 : ∀ x ∈ l, x.vals.length ≤ 1000000000) (hm2 : ∀ x ∈ m, x.vals.length ≤ 1000000000) :
  Calls Tryz.prog 59 #[v, u] w fun e w' => e = .returned (.bool r) ∧ Below w.heap.size w w' := by
 have hE := equalA_any v u l m r hr w hv hu hl hm hl2 hm2
 clear hr
 go_enter Tryz.func59, Tryz.ntmps59
 go_wp2_with fail
 refine hE.mono ?_
 rintro e w1 ⟨rfl, hb⟩
 go_wp2
 go_ret
 exact ⟨rfl, hb⟩
end Go.Proofs.YtoopoglkeeoamaaGreatDoor
/- identityref08: SameStrings, SameMods. -/
namespace Go.Proofs.YtoopoglkeeoamaaGreatDoor
open Go.RowKit Go.Sort
open Idn (L B Bs drop_L take_L size_L)
theorem md_ext {a b : Md} (h1 : a.op = b.op) (h2 : a.name = b.name) (h3 : a.vals = b.vals) : a = b := by cases a; cases b; simp_all
theorem B_beq (a b : Bs) : ((B a).toList == (B b).toList) = decide (a = b) := by rw [str_beq, Idn.L_B, Idn.L_B]
theorem take_ext {α : Type} {a b : List α} {k : Nat} (h : a.take k = b.take k) (h1 : k < a.length) (h2 : k < b.length) (he : a[k] = b[k]) : a.take (k + 1) = b.take (k + 1) := by
 rw [List.take_succ_eq_append_getElem h1, List.take_succ_eq_append_getElem h2, h, he]
theorem get_ne {α : Type} {a b : List α} {k : Nat} (h1 : k < a.length) (h2 : k < b.length) (he : a[k] ≠ b[k]) : a ≠ b := fun h => he (by subst h; rfl)
theorem sameS_any (v u : Value) (a b : List Bs) (r : Bool) (hr : r = true ↔ a = b) (w : World) (hv : StrsV w w.heap.size v a) (hu : StrsV w w.heap.size u b) (ha : a.length ≤ 1000000000) (hb : b.length ≤ 1000000000) :
  Calls Tryz.prog 39 #[v, u] w fun e w' => e = .returned (.bool r) ∧ Below w.heap.size w w' := by
 obtain ⟨A, c, rfl, _⟩ := SlV.shape hv
 obtain ⟨A2, c2, rfl, _⟩ := SlV.shape hu
 go_enter Tryz.func39, Tryz.ntmps39
 by_cases h0 : a.length = b.length
 ·have h0I : ((a.length : Int) != (b.length : Int)) = false := by rw [h0]; simp
  have H0 := Lib.hid h0
  have HRR := Lib.hid hr
  clear h0 hr
  go_wp2_with fail
  go_loopw [5] (fun i wr => ∃ (k : Nat), k ≤ a.length ∧ i = .int .i64 k ∧ Below w.heap.size w wr ∧ Hid (a.take k = b.take k)) (fun i _ => a.length - (intOf i).toNat)
  case atStart => exact ⟨0, Nat.zero_le _, rfl, Below.refl _ _, rfl⟩
  case round =>
   obtain ⟨k, hk, rfl, hbw, hinv⟩ := hrel
   by_cases hlt : k < a.length
   ·have hlt' : k < b.length := by have := H0.out; omega
    obtain ⟨b1, o1, hA, hb1, d0⟩ := StrsV.cell (SlV.keep hv hbw) hlt
    obtain ⟨b2, o2, hA2, hb2, e0⟩ := StrsV.cell (SlV.keep hu hbw) hlt'
    subst hA hA2
    have hltI : (k : Int) < (a.length : Int) := by omega
    have hltJ : (k : Int) < (b.length : Int) := by omega
    have ht := B_beq a[k] b[k]
    by_cases he : a[k] = b[k]
    ·have HF := Lib.hid (take_ext hinv.out hlt hlt' he)
     rw [decide_eq_true he] at ht
     clear hinv he
     generalize B a[k] = x at *
     generalize B b[k] = y at *
     go_wp2
     go_quiet (fail)
     go_wp2
     go_roundw
     case rel => exact ⟨k + 1, by omega, by go_num, below_drewN hbw _, HF⟩
     case measure => simp [intOf]; omega
    ·have HF := Lib.hid (no_true HRR.out (get_ne hlt hlt' he))
     rw [decide_eq_false he] at ht
     clear hinv he
     generalize B a[k] = x at *
     generalize B b[k] = y at *
     go_wp2
     go_quiet (fail)
     go_wp2
     go_ret
     exact ⟨ret_bool HF.out.symm, below_drewN hbw _⟩
   ·have hltI : ¬ (k : Int) < (a.length : Int) := by omega
    have hltJ : ¬ (k : Int) < (b.length : Int) := by have := H0.out; omega
    have HF : Hid (r = true) := HRR.out.2 (by
     have h1 := hinv.out
     have h2 := H0.out
     rwa [List.take_of_length_le (by omega), List.take_of_length_le (by omega)] at h1)
    clear hinv
    go_wp2
    go_ret
    exact ⟨ret_bool HF.out.symm, hbw⟩
 ·have h0I : ((a.length : Int) != (b.length : Int)) = true := by rw [bne_iff_ne]; omega
  have HF := Lib.hid (no_true hr fun h => h0 (by rw [h]))
  go_wp2_with fail
  go_ret
  exact ⟨ret_bool HF.out.symm, Below.refl _ _⟩
theorem sameMods_any (v u : Value) (a b : List Md) (r : Bool) (hr : r = true ↔ a = b) (w : World) (hv : ModsV w w.heap.size v a) (hu : ModsV w w.heap.size u b) (ha : a.length ≤ 1000000000) (hb : b.length ≤ 1000000000) (hav : ∀ m ∈ a, m.vals.length ≤ 1000000000) (hbv : ∀ m ∈ b, m.vals.length ≤ 1000000000) :
  Calls Tryz.prog 28 #[v, u] w fun e w' => e = .returned (.bool r) ∧ Below w.heap.size w w' := by
 obtain ⟨A, c, rfl, _⟩ := SlV.shape hv
 obtain ⟨A2, c2, rfl, _⟩ := SlV.shape hu
 go_enter Tryz.func28, Tryz.ntmps28
 by_cases h0 : a.length = b.length
 ·have h0I : ((a.length : Int) != (b.length : Int)) = false := by rw [h0]; simp
  have H0 := Lib.hid h0
  have HRR := Lib.hid hr
  clear h0 hr
  go_wp2_with fail
  go_loopw [5] (fun i wr => ∃ (k : Nat), k ≤ a.length ∧ i = .int .i64 k ∧ Below w.heap.size w wr ∧ Hid (a.take k = b.take k)) (fun i _ => a.length - (intOf i).toNat)
  case atStart => exact ⟨0, Nat.zero_le _, rfl, Below.refl _ _, rfl⟩
  case round =>
   obtain ⟨k, hk, rfl, hbw, hinv⟩ := hrel
   obtain ⟨wo, hwo⟩ : ∃ wo : World, wo = wr := ⟨_, rfl⟩
   subst hwo
   by_cases hlt : k < a.length
   ·have hlt' : k < b.length := by have := H0.out; omega
    obtain ⟨b1, o1, v1, hA, hb1, d0, d1, d2, ds⟩ := ModsV.cell (hv.keep hbw) hlt
    obtain ⟨b2, o2, v2, hA2, hb2, e0, e1, e2, es⟩ := ModsV.cell (hu.keep hbw) hlt'
    subst hA hA2
    obtain ⟨Av, cv, rfl, _⟩ := ds.shape
    obtain ⟨Aw, cw, rfl, _⟩ := es.shape
    have hltI : (k : Int) < (a.length : Int) := by omega
    have hltJ : (k : Int) < (b.length : Int) := by omega
    have ht := B_beq a[k].name b[k].name
    have q0 := fun (rr : Bool) (hrr : rr = true ↔ a[k].vals = b[k].vals) (W : World) (hW : Below wo.heap.size wo W) => sameS_any _ _ a[k].vals b[k].vals rr hrr W (SlV.mono (SlV.keep ds (hW.mono hbw.size)) (hbw.trans (hW.mono hbw.size)).size) (SlV.mono (SlV.keep es (hW.mono hbw.size)) (hbw.trans (hW.mono hbw.size)).size) (hav _ (List.getElem_mem _)) (hbv _ (List.getElem_mem _))
    have k0 := cell_regrown d0
    have k1 := cell_regrown d1
    have k2 := cell_regrown d2
    have l0 := cell_regrown e0
    have l1 := cell_regrown e1
    have l2 := cell_regrown e2
    have hne := get_ne hlt hlt'
    have hte := take_ext hinv.out hlt hlt'
    clear hinv ds es d0 d1 d2 e0 e1 e2
    by_cases ho : a[k].op = b[k].op
    case neg =>
     have hoI : (a[k].op != b[k].op) = true := by rw [bne_iff_ne]; exact ho
     have HF := Lib.hid (no_true HRR.out (hne fun e => ho (by rw [e])))
     clear ho q0 hne hte ht
     go_wp2
     refine wp_region_quiet_below (by kernel_rfl) (by kernel_rfl) ?_
     repeat (first | go_big_quiet_step ((fail)) | quiet_step ((fail)))
     refine wpQuiet_nil ?_
     intro _ hw'
     obtain ⟨⟨dq, osq⟩, hw''⟩ := hw'
     subst hw''
     have hb4 := below_regrown wo dq osq
     generalize grow (redrawn wo dq) osq = W4 at hb4 ⊢
     go_wp2_with fail
     go_ret
     exact ⟨ret_bool HF.out.symm, hbw.trans (hb4.mono hbw.size)⟩
    have hoI : (a[k].op != b[k].op) = false := by rw [ho]; simp
    by_cases hn : a[k].name = b[k].name
    case neg =>
     rw [decide_eq_false hn] at ht
     have HF := Lib.hid (no_true HRR.out (hne fun e => hn (by rw [e])))
     clear hn q0 hne hte ho
     go_wp2
     refine wp_region_quiet_below (by kernel_rfl) (by kernel_rfl) ?_
     repeat (first | go_big_quiet_step ((fail)) | quiet_step ((fail)))
     refine wpQuiet_nil ?_
     intro _ hw'
     obtain ⟨⟨dq, osq⟩, hw''⟩ := hw'
     subst hw''
     have hb4 := below_regrown wo dq osq
     generalize grow (redrawn wo dq) osq = W4 at hb4 ⊢
     go_wp2_with fail
     go_ret
     exact ⟨ret_bool HF.out.symm, hbw.trans (hb4.mono hbw.size)⟩
    rw [decide_eq_true hn] at ht
    by_cases hs : a[k].vals = b[k].vals
    case neg =>
     have q1 := cq (W := wo) (q0 false ⟨fun h => (by cases h), fun h => absurd h hs⟩)
     have HF := Lib.hid (no_true HRR.out (hne fun e => hs (by rw [e])))
     clear hn q0 hne hte hs ho
     go_wp2
     refine wp_region_quiet_below (by kernel_rfl) (by kernel_rfl) ?_
     repeat (first | go_big_quiet_step ((go_at_call 39; exact q1 _ _)) | quiet_step ((go_at_call 39; exact q1 _ _)))
     refine wpQuiet_nil ?_
     intro _ hw'
     obtain ⟨⟨dq, osq⟩, hw''⟩ := hw'
     subst hw''
     have hb4 := below_regrown wo dq osq
     generalize grow (redrawn wo dq) osq = W4 at hb4 ⊢
     clear q1
     go_wp2_with fail
     go_ret
     exact ⟨ret_bool HF.out.symm, hbw.trans (hb4.mono hbw.size)⟩
    have q1 := cq (W := wo) (q0 true ⟨fun _ => hs, fun _ => rfl⟩)
    have HF := Lib.hid (hte (md_ext ho hn hs))
    clear hn q0 hne hte hs ho
    go_wp2
    refine wp_region_quiet_below (by kernel_rfl) (by kernel_rfl) ?_
    repeat (first | go_big_quiet_step ((go_at_call 39; exact q1 _ _)) | quiet_step ((go_at_call 39; exact q1 _ _)))
    refine wpQuiet_nil ?_
    intro _ hw'
    obtain ⟨⟨dq, osq⟩, hw''⟩ := hw'
    subst hw''
    have hb4 := below_regrown wo dq osq
    generalize grow (redrawn wo dq) osq = W4 at hb4 ⊢
    clear q1
    go_wp2_with fail
    go_roundw
    case rel => exact ⟨k + 1, by omega, by go_num, hbw.trans (hb4.mono hbw.size), HF⟩
    case measure => simp [intOf]; omega
   ·have hltI : ¬ (k : Int) < (a.length : Int) := by omega
    have hltJ : ¬ (k : Int) < (b.length : Int) := by have := H0.out; omega
    have HF : Hid (r = true) := HRR.out.2 (by
     have h1 := hinv.out
     have h2 := H0.out
     rwa [List.take_of_length_le (by omega), List.take_of_length_le (by omega)] at h1)
    clear hinv
    go_wp2
    go_ret
    exact ⟨ret_bool HF.out.symm, hbw⟩
 ·have h0I : ((a.length : Int) != (b.length : Int)) = true := by rw [bne_iff_ne]; omega
  have HF := Lib.hid (no_true hr fun h => h0 (by rw [h]))
  go_wp2_with fail
  go_ret
  exact ⟨ret_bool HF.out.symm, Below.refl _ _⟩
end Go.Proofs.YtoopoglkeeoamaaGreatDoor
/- identityref08: has, minus, normals. -/
namespace Go.Proofs.YtoopoglkeeoamaaGreatDoor
open Go.RowKit Go.Sort
open Idn (L B Bs drop_L take_L size_L)
theorem eAtt_unf (s : Idn.Sch) (a : Bs) (l : List Bs) : eAtt s a l = if (eVals s a l).2 != 0 then ([], (eVals s a l).2) else if dupK [] (eVals s a l).1 then ([], 7) else ((eVals s a l).1, 0) := rfl
theorem mem_take8 {α : Type} {l : List α} {k : Nat} (h : k < l.length) (x : α) : x ∈ l.take (k + 1) ↔ x ∈ l.take k ∨ x = l[k] := by
 rw [List.take_succ_eq_append_getElem h, List.mem_append, List.mem_singleton]
theorem r8_normals_any (u : Value) (s : Idn.Sch) (a : ByteArray) (v : Value) (l : List Bs) (w : World) (hu : SchV w w.heap.size u s) (hs : SSm s) (hv : StrsV w w.heap.size v l) (ha : a.size ≤ 1000000000) (hl : l.length ≤ 1048600) (hx : ∀ x ∈ l, x.length ≤ 100000000) :
  Calls Tryz.prog 56 #[u, .string a, v] w (RetSE w (eAtt s (L a) l)) := by
 have hN := fun W (hW : Below w.heap.size w W) x hx => r_Normal_any u s a x W (SchV.mono (SchV.keep hu hW) hW.size) hs ha hx
 obtain ⟨au, bu, rfl, hT, hC⟩ := hu
 obtain ⟨A1, c1, rfl, _⟩ := SlV.shape hT
 obtain ⟨A2, c2, rfl, _⟩ := SlV.shape hC
 obtain ⟨A, c, rfl, hc⟩ := hv.shape
 clear hT hC
 have HQ := Lib.hid (eAtt_unf s (L a) l)
 generalize eAtt s (L a) l = r0 at *
 generalize hr : eVals s (L a) l = r at *
 have HR : Hid (r = eValsK s (L a) [] l) := hr.symm
 clear hr
 go_enter Tryz.func56, Tryz.ntmps56
 go_upto_region 1 with fail
 with_reducible refine gen1 (R := fun W => Code.wp Tryz.prog _ _ _ W) ?_
 intro W0 hbW0 hszW0 hc0 _
 have q0 : W0.cell? ⟨w.heap.size, 0, none⟩ = some (.slice A1 s.types.length c1) := hc0 0 _ rfl
 have q1 : W0.cell? ⟨w.heap.size, 1, none⟩ = some (.slice A2 s.classes.length c2) := hc0 1 _ rfl
 clear hc0 hszW0
 go_wp2_with fail
 go_loopw [8, 9] (fun o i wr => ∃ (k : Nat) (acc : List Bs), k ≤ l.length ∧ i = .int .i64 k ∧ wr.ownsRow W0.heap.size 9 1 o k (acc.map sv) ∧ Below W0.heap.size W0 wr ∧ Hid (r = eValsK s (L a) acc (l.drop k)) ∧ Hid (acc.length = k)) (fun _ i _ => l.length - (intOf i).toNat)
 case atStart => exact ⟨0, [], Nat.zero_le _, rfl, World.ownsRow_nil _ _ _ _, Below.refl _ _, by show _ = _; rw [HR.out]; rfl, rfl⟩
 case round =>
  obtain ⟨k, acc, hk, rfl, hown, hb, hinv, hal⟩ := hrel
  have hbw := hbW0.trans (hb.mono hbW0.size)
  obtain ⟨wo, hwo⟩ : ∃ wo : World, wo = wr := ⟨_, rfl⟩
  subst hwo
  by_cases hlt : k < l.length
  ·obtain ⟨b, off, hA, hbl, d0⟩ := StrsV.cell (SlV.keep hv hbw) hlt
   subst hA
   have hltI : (k : Int) < (l.length : Int) := by omega
   have hsz := hx l[k] (List.getElem_mem hlt)
   have hszB : (B l[k]).size ≤ 100000000 := by rw [Idn.size_B]; exact hsz
   have hNk := fun W (hW : Below wo.heap.size wo W) => hN W (hbw.trans (hW.mono hbw.size)) (B l[k]) hszB
   simp only [Idn.L_B] at hNk
   obtain ⟨t1, t2⟩ := eValsK_step s (L a) l k hlt acc r hinv.out
   have p0 := cell_later hb q0
   have p1 := cell_later hb q1
   generalize sNorm s (L a) l[k] = sn at *
   obtain ⟨sx, se⟩ := sn
   dsimp only at t1 t2
   have q9 := cq (W := wo) (fun W hW => hNk W hW)
   have k0 := cell_regrown p0
   have k1 := cell_regrown p1
   have k2 := cell_regrown d0
   clear hinv hN q0 q1 hNk p0 p1 d0
   by_cases he : se = 0
   ·subst he
    have HF : Hid (r = eValsK s (L a) (acc ++ [sx]) (l.drop (k + 1))) := t2 rfl
    clear t1 t2
    go_wp2
    refine wp_region_quiet_below (by kernel_rfl) (by kernel_rfl) ?_
    repeat (first | go_big_quiet_step ((go_at_call 103; exact q9 _ _)) | quiet_step ((go_at_call 103; exact q9 _ _)))
    refine wpQuiet_nil ?_
    intro _ hw'
    obtain ⟨⟨dq, osq⟩, hw''⟩ := hw'
    subst hw''
    have hb4 := below_regrown wo dq osq
    generalize grow (redrawn wo dq) osq = W4 at hb4 ⊢
    clear q9 k0 k1 k2
    have hown1 := own_below hown hb4
    have hb01 := hb.trans (hb4.mono hb.size)
    clear hown
    go_wp2_with (at_builtin; refine wpList_push W4 rfl _ _ 45 rfl W0.heap.size 9 (.string ⟨#[]⟩) 1 16 Tryz.underlying45 info_str rfl (by decide) _ k _ hown1 rfl [.string (B sx)] rfl rfl (by intro u hu; simp at hu; subst hu; rfl) (by omega) hb01.size ?_ rfl)
    intro v' w2 hown2 _ _ hb2 _
    clear hown1
    go_wp2
    go_roundw
    case rel => exact ⟨k + 1, acc ++ [sx], by omega, by go_num, by rw [List.map_append]; exact hown2, hb01.trans hb2, HF, by show _ = _; rw [List.length_append, hal.out]; rfl⟩
    case measure => simp [intOf]; omega
   ·have HF : Hid (r0 = ([], se)) := by show _ = _; rw [HQ.out, t1 he, if_pos (by simpa using he)]
    have hne : (se != 0) = true := by simpa using he
    clear t1 t2 he
    go_wp2
    refine wp_region_quiet_below (by kernel_rfl) (by kernel_rfl) ?_
    repeat (first | go_big_quiet_step ((go_at_call 103; exact q9 _ _)) | quiet_step ((go_at_call 103; exact q9 _ _)))
    refine wpQuiet_nil ?_
    intro _ hw'
    obtain ⟨⟨dq, osq⟩, hw''⟩ := hw'
    subst hw''
    have hb4 := below_regrown wo dq osq
    generalize grow (redrawn wo dq) osq = W4 at hb4 ⊢
    clear q9 k0 k1 k2
    go_wp2_with fail
    go_ret2
    exact ⟨_, by rw [HF.out]; rfl, by rw [HF.out]; exact World.ownsRow_nil _ _ _ _, hbw.trans (hb4.mono hbw.size)⟩
  ·have hkl : k = l.length := by omega
   have hltI : ¬ (k : Int) < (l.length : Int) := by omega
   have HF : Hid (r = (acc, 0)) := by show _ = _; rw [hinv.out, List.drop_eq_nil_of_le (by omega)]; rfl
   have HQ2 : Hid (r0 = if dupK [] acc then ([], 7) else (acc, 0)) := by show _ = _; rw [HQ.out, HF.out]; rfl
   have hown0 : wo.ownsRow W0.heap.size 9 1 u8 acc.length (acc.map sv) := by have := hal.out; rw [this]; exact hown
   have hSt := StrsV.of_own hown0
   have hfin := own_base hown0 (base' := w.heap.size) hbW0.size
   obtain ⟨Ao, co, hov⟩ := own_shape hown
   subst hov
   have HK := Lib.hid hkl
   have hkl2 : k ≤ 1048600 := by omega
   have hal2 := hal.out
   subst hal2
   clear hinv hN HF HQ HR hown hown0 hkl hal hlt
   go_wp2_with fail
   go_loopw [12] (fun i wr => ∃ (j : Nat), j ≤ acc.length ∧ i = .int .i64 j ∧ Below wo.heap.size wo wr ∧ Hid (dupK [] acc = dupK (acc.take j) (acc.drop j))) (fun i _ => acc.length - (intOf i).toNat)
   case atStart => exact ⟨0, Nat.zero_le _, rfl, Below.refl _ _, by show _ = _; simp⟩
   case round =>
    obtain ⟨j, hj, rfl, hbj, hdj⟩ := hrel
    obtain ⟨wj, hwj⟩ : ∃ wj : World, wj = wr := ⟨_, rfl⟩
    subst hwj
    by_cases hjl : j < acc.length
    ·have hjI : (j : Int) < (acc.length : Int) := by omega
     obtain ⟨t1, t2⟩ := dupK_step acc j hjl _ hdj.out
     have T1 := Lib.hid t1
     have T2 := Lib.hid t2
     clear t1 t2 hdj
     go_wp2_with fail
     go_loopw [13] (fun i wr => ∃ (m : Nat), m ≤ j ∧ i = .int .i64 m ∧ Below wo.heap.size wo wr ∧ Hid (acc[j] ∉ acc.take m)) (fun i _ => j - (intOf i).toNat)
     case atStart => exact ⟨0, Nat.zero_le _, rfl, hbj, by show ¬ _; simp⟩
     case round =>
      obtain ⟨m, hm, rfl, hbm, hnm⟩ := hrel
      by_cases hml : m < j
      ·have hmI : (m : Int) < (j : Int) := by omega
       have hma : m < acc.length := by omega
       obtain ⟨b1, o1, hA1, hb1, d0⟩ := StrsV.cell (SlV.keep hSt hbm) hjl
       subst hA1
       obtain ⟨b2, o2, hA2, hb2, e0⟩ := StrsV.cell (SlV.keep hSt hbm) hma
       injection hA2 with hA2
       injection hA2 with hA2 hA3
       subst hA2 hA3
       have ht := B_beq acc[j] acc[m]
       by_cases he : acc[j] = acc[m]
       ·rw [decide_eq_true he] at ht
        have HF : Hid (r0 = ([], 7)) := by
         show _ = _
         rw [HQ2.out, if_pos]
         refine T1.out ?_
         rw [List.contains_iff_mem, he]
         exact List.mem_of_getElem? (i := m) (by rw [List.getElem?_take_of_lt hml, List.getElem?_eq_getElem hma])
        clear hnm he T1 T2 HQ2
        generalize B acc[j] = x at *
        generalize B acc[m] = y at *
        go_wp2
        go_quiet (fail)
        go_wp2
        go_ret2
        exact ⟨_, by rw [HF.out]; rfl, by rw [HF.out]; exact World.ownsRow_nil _ _ _ _, hbw.trans ((below_drewN hbm _).mono hbw.size)⟩
       ·rw [decide_eq_false he] at ht
        have HF : Hid (acc[j] ∉ acc.take (m + 1)) := by
         show ¬ _
         rw [mem_take8 hma]
         exact fun h => h.elim hnm.out he
        clear hnm he
        generalize B acc[j] = x at *
        generalize B acc[m] = y at *
        go_wp2
        go_quiet (fail)
        go_wp2
        go_roundw
        case rel => exact ⟨m + 1, by omega, by go_num, below_drewN hbm _, HF⟩
        case measure => simp [intOf]; omega
      ·have hmI : ¬ (m : Int) < (j : Int) := by omega
       have HF : Hid (dupK [] acc = dupK (acc.take (j + 1)) (acc.drop (j + 1))) := T2.out (by
        have e1 : m = j := by omega
        have := hnm.out
        rw [e1] at this
        rw [← Bool.not_eq_true, List.contains_iff_mem]; exact this)
       clear hnm T1 T2
       go_wp2_with fail
       go_roundw
       case rel => exact ⟨j + 1, by omega, by go_num, hbm, HF⟩
       case measure => simp [intOf]; omega
    ·have hjI : ¬ (j : Int) < (acc.length : Int) := by omega
     have hd0 : dupK [] acc = false := by rw [hdj.out, List.drop_eq_nil_of_le (by omega)]; rfl
     have HF : Hid (r0 = (acc, 0)) := by show _ = _; rw [HQ2.out, hd0]; rfl
     clear hdj hd0 HQ2
     go_wp2_with fail
     go_ret2
     exact ⟨_, by rw [HF.out]; rfl, by rw [HF.out]; exact own_below hfin hbj, hbw.trans (hbj.mono hbw.size)⟩
end Go.Proofs.YtoopoglkeeoamaaGreatDoor
/- entry: Apply, walked. -/
namespace Go.Proofs.YtoopoglkeeoamaaGreatDoor
open Go.RowKit Go.Sort
open Idn (L B Bs drop_L take_L size_L)
theorem eApply_unf (s : Idn.Sch) (n : Bs) (l : List Idn.Att) (ms : List Md) : eApply s n l ms = if (eNormal s n l).2 != 0 || (!decide ((eNormal s n l).1.1 = n) || !sameV (eNormal s n l).1.2 l) then (([], []), 2)
 else if 32 < ms.length then (([], []), 3)
 else if (eModsK s l ms).2 != 0 then (([], []), (eModsK s l ms).2)
 else if sValid s (eModsK s l ms).1 != 0 then (([], []), sValid s (eModsK s l ms).1) else ((n, (eModsK s l ms).1), 0) := rfl
theorem eModsK_step (s : Idn.Sch) (ms : List Md) (k : Nat) (hk : k < ms.length) (cur : List Idn.Att) (r : List Idn.Att × Int) (h : r = eModsK s cur (ms.drop k)) :
  ((eMod s cur ms[k]).2 ≠ 0 → r = ([], (eMod s cur ms[k]).2)) ∧ ((eMod s cur ms[k]).2 = 0 → r = eModsK s (eMod s cur ms[k]).1 (ms.drop (k + 1))) := by
 rw [List.drop_eq_getElem_cons hk, eModsK] at h
 refine ⟨fun hn => ?_, fun hn => ?_⟩
 ·rw [h, if_pos (by simpa using hn)]
 ·rw [h, if_neg (by simpa using hn)]
theorem Fit.asm {k : Nat} {l : List Idn.Att} (h : Fit k l) (hk : k ≤ 100) : ASm l ∧ ASm5 l :=
 ⟨⟨by have := h.2.1; omega, fun a ha => by
  obtain ⟨h1, h2, h3⟩ := h.2.2 a ha
  exact ⟨by omega, by omega, fun x hx => by have := h3 x hx; omega⟩⟩, fun a ha => by
  obtain ⟨h1, h2, h3⟩ := h.2.2 a ha
  exact ⟨by omega, fun x hx => by have := h3 x hx; omega⟩⟩
def MBig (ms : List Md) : Prop := ∀ m ∈ ms, m.name.length ≤ 1000000000 ∧ m.vals.length ≤ 1048600 ∧ ∀ x ∈ m.vals, x.length ≤ 100000000
theorem apply_any (u : Value) (s : Idn.Sch) (n : ByteArray) (a : Value) (l : List Idn.Att) (mv : Value) (ms : List Md) (w : World) (hu : SchV w w.heap.size u s) (hs : SSm s) (hE : Env w) (hU : EnvU w) (hv : AttsV w w.heap.size a l) (hn : n.size ≤ 1000000000) (hsm : ASm l) (hs5 : ASm5 l) (hl6 : l.length ≤ 1000000) (hm : ModsV w w.heap.size mv ms) (hms : MBig ms) :
  Calls Tryz.prog 21 #[u, .agg #[.string n, a], mv] w (RetE w (eApply s (L n) l ms)) := by
 have hV := fun W (hW : Below w.heap.size w W) => SchV.mono (SchV.keep hu hW) hW.size
 have hA := fun W (hW : Below w.heap.size w W) => AttsV.mono (AttsV.keep hv hW) hW.size
 have hNm := fun W (hW : Below w.heap.size w W) => eNormal_any u s n a l W (hV W hW) hs (hE.keep hW) (hU.keep hW) (hA W hW) hn hsm hs5
 have hMd := fun W (hW : Below w.heap.size w W) lv cur op (nm : ByteArray) vv vs k h1 h2 h3 h4 h5 h6 h7 => modified_any u s lv cur op nm vv vs k W (hV W hW) hs (hE.keep hW) (hU.keep hW) h1 h2 h3 h4 h5 h6 h7
 have hVd := fun W (hW : Below w.heap.size w W) nm va q h1 h2 h3 => valid_any u s nm va q W (hV W hW) hs (hE.keep hW) (hU.keep hW) h1 h2 h3
 have hSm := fun W (hW : Below w.heap.size w W) va q rr hrr (h1 : AttsV W W.heap.size va q) h2 h3 => esame_any va a q l rr hrr W h1 (hA W hW) h2 hl6 h3 (fun x hx => (hsm.2 x hx).2.1)
 have hfit := fun x h => fit_start (s := s) (n := L n) (l := l) (x := x) h
 have HR := Lib.hid (eApply_unf s (L n) l ms)
 obtain ⟨au, bu, rfl, hT, hC⟩ := hu
 obtain ⟨A1, c1, rfl, _⟩ := SlV.shape hT
 obtain ⟨A2, c2, rfl, _⟩ := SlV.shape hC
 obtain ⟨A, c, rfl, hc⟩ := SlV.shape hv
 obtain ⟨Am, cm, rfl, hcm⟩ := SlV.shape hm
 generalize eApply s (L n) l ms = r at *
 generalize eNormal s (L n) l = nr at *
 obtain ⟨⟨nN, nL⟩, nE⟩ := nr
 skip
 clear hT hC hV hA hs hE hU hsm hs5 hl6
 go_enter Tryz.func21, Tryz.ntmps21
 go_upto_region 1 with fail
 with_reducible refine gen3 (R := fun W => Code.wp Tryz.prog _ _ _ W) ?_
 intro W hbW hszW hc1 hc2 hc3 hfz
 have q0 : W.cell? ⟨w.heap.size, 0, none⟩ = some (.slice A1 s.types.length c1) := hc1 0 _ rfl
 have q1 : W.cell? ⟨w.heap.size, 1, none⟩ = some (.slice A2 s.classes.length c2) := hc1 1 _ rfl
 have e0 : W.cell? ⟨w.heap.size + 1, 0, none⟩ = some (.string n) := hc2 0 _ rfl
 have e1 : W.cell? ⟨w.heap.size + 1, 1, none⟩ = some (.slice A l.length c) := hc2 1 _ rfl
 have z0 : W.cell? ⟨w.heap.size + 1 + 1, 0, none⟩ = some (.string ⟨#[]⟩) := hc3 0 _ rfl
 have z1 : W.cell? ⟨w.heap.size + 1 + 1, 1, none⟩ = some (.slice none 0 0) := hc3 1 _ rfl
 have g0 := hfz 0
 have g1 := hfz 1
 have hzW : w.heap.size + 1 + 1 < W.heap.size := by omega
 have hzz : w.heap.size ≤ w.heap.size + 1 + 1 := by omega
 clear hc1 hc2 hc3 hfz hszW
 go_wp2_with fail
 refine (hNm W hbW).mono ?_
 rintro e w1 ⟨v1, ps1, rfl, hown1, hps1, hb1⟩
 obtain ⟨A1', c1', hv1⟩ := own_shape hown1.1
 subst hv1
 have hws1 := hb1.size
 have HP1 := Lib.hid hps1
 replace q0 := cell_later hb1 q0
 replace q1 := cell_later hb1 q1
 replace e0 := cell_later hb1 e0
 replace e1 := cell_later hb1 e1
 replace z0 := cell_later hb1 z0
 replace z1 := cell_later hb1 z1
 replace g0 := (hb1.frozen (p := ⟨w.heap.size + 1 + 1, 0, none⟩) hzW).trans g0
 replace g1 := (hb1.frozen (p := ⟨w.heap.size + 1 + 1, 1, none⟩) hzW).trans g1
 have hzW1 : w.heap.size + 1 + 1 < w1.heap.size := by omega
 have hbw1 := hbW.trans (hb1.mono hbW.size)
 clear hNm hps1 hbW
 go_upto_region 2 with fail
 with_reducible refine gen1 (R := fun W => Code.wp Tryz.prog _ _ _ W) ?_
 intro W2 hbW2 hszW2 hc2 hfz2
 have p0 : W2.cell? ⟨w1.heap.size, 0, none⟩ = some (.string (B nN)) := hc2 0 _ rfl
 have p1 : W2.cell? ⟨w1.heap.size, 1, none⟩ = some (.slice A1' ps1.length c1') := hc2 1 _ rfl
 have pf := hfz2 1
 replace q0 := cell_later hbW2 q0
 replace q1 := cell_later hbW2 q1
 replace e0 := cell_later hbW2 e0
 replace e1 := cell_later hbW2 e1
 replace z0 := cell_later hbW2 z0
 replace z1 := cell_later hbW2 z1
 replace g0 := (hbW2.frozen (p := ⟨w.heap.size + 1 + 1, 0, none⟩) hzW1).trans g0
 replace g1 := (hbW2.frozen (p := ⟨w.heap.size + 1 + 1, 1, none⟩) hzW1).trans g1
 have hbw2 := hbw1.trans (hbW2.mono hbw1.size)
 have hown2 := hown1.keep hbW2
 have hzW2 : w.heap.size + 1 + 1 < W2.heap.size := by omega
 have hpW2 : w1.heap.size < W2.heap.size := by omega
 clear hc2 hfz2 hszW2 hbW2 hown1 hb1
 by_cases hnE : nE = 0
 case neg =>
  have hI : (nE != 0) = true := by simpa using hnE
  have HF : Hid (r = (([], []), 2)) := by show _ = _; rw [HR.out]; rw [hI]; rfl
  clear HR hnE hMd hVd hSm hfit hown2
  go_wp2_with fail
  exact bodyPost_ret (v := .tuple #[.agg #[.string ⟨#[]⟩, .slice none 0 0], .int .i64 2]) (by simp [results, Tryz.results21, go_sem, z0, z1, g0, g1]) rfl ⟨_, [], by rw [HF.out]; rfl, AttOwn.nil _ _, by rw [HF.out]; rfl, (hbw2.setCell (p := ⟨w.heap.size + 1 + 1, 0, none⟩) hzz _).setCell (p := ⟨w.heap.size + 1 + 1, 1, none⟩) hzz _⟩
 subst hnE
 have hfit1 : Fit 32 nL := hfit _ rfl
 have hem : ((B nN).toList == n.toList) = decide (nN = L n) := by rw [str_beq, Idn.L_B]
 clear hfit
 by_cases hnn : nN = L n
 case neg =>
  rw [decide_eq_false hnn] at hem
  have HF : Hid (r = (([], []), 2)) := by show _ = _; rw [HR.out]; rw [decide_eq_false hnn]; rfl
  clear HR hnn hMd hVd hSm hown2
  go_wp2_with fail
  exact bodyPost_ret (v := .tuple #[.agg #[.string ⟨#[]⟩, .slice none 0 0], .int .i64 2]) (by simp [results, Tryz.results21, go_sem, z0, z1, g0, g1]) rfl ⟨_, [], by rw [HF.out]; rfl, AttOwn.nil _ _, by rw [HF.out]; rfl, (hbw2.setCell (p := ⟨w.heap.size + 1 + 1, 0, none⟩) hzz _).setCell (p := ⟨w.heap.size + 1 + 1, 1, none⟩) hzz _⟩
 rw [decide_eq_true hnn] at hem
 obtain ⟨b, hbb⟩ : ∃ b : Bool, b = true ↔ nL = l := by
  by_cases h : nL = l
  ·exact ⟨true, fun _ => h, fun _ => rfl⟩
  ·exact ⟨false, fun e => (by cases e), fun e => absurd e h⟩
 have HBB := Lib.hid hbb
 have hSa := hSm W2 hbw2 _ nL b hbb (hown2.atts HP1.out) (by have := hfit1.2.1; omega) (fun x hx => by have := (hfit1.2.2 x hx).2.1; omega)
 have HN := Lib.hid hnn
 clear hSm hnn hbb
 go_wp2_with fail
 refine hSa.mono ?_
 rintro e w3 ⟨rfl, hb3⟩
 have hbb := HBB.out
 clear HBB
 have hbw3 := hbw2.trans (hb3.mono hbw2.size)
 have hws3 := hb3.size
 replace q0 := cell_later hb3 q0
 replace q1 := cell_later hb3 q1
 replace p0 := cell_later hb3 p0
 replace p1 := cell_later hb3 p1
 replace z0 := cell_later hb3 z0
 replace z1 := cell_later hb3 z1
 replace g0 := (hb3.frozen (p := ⟨w.heap.size + 1 + 1, 0, none⟩) hzW2).trans g0
 replace g1 := (hb3.frozen (p := ⟨w.heap.size + 1 + 1, 1, none⟩) hzW2).trans g1
 replace pf := (hb3.frozen (p := ⟨w1.heap.size, 1, none⟩) hpW2).trans pf
 have hown3 := hown2.keep hb3
 have hzW3 : w.heap.size + 1 + 1 < w3.heap.size := by omega
 have hpW3 : w1.heap.size < w3.heap.size := by omega
 clear hSa e0 e1 hem hown2 hzW2 hpW2 hb3 hbw2 hbw1
 cases b
 case false =>
  have hne : sameV nL l = false := by
   cases h : sameV nL l
   ·rfl
   ·have := hbb.2 (sameV_eq h); cases this
  have HF : Hid (r = (([], []), 2)) := by show _ = _; rw [HR.out]; rw [hne, HN.out]; simp
  clear HR hbb hMd hVd hown3 hne
  go_wp2_with fail
  exact bodyPost_ret (v := .tuple #[.agg #[.string ⟨#[]⟩, .slice none 0 0], .int .i64 2]) (by simp [results, Tryz.results21, go_sem, z0, z1, g0, g1]) rfl ⟨_, [], by rw [HF.out]; rfl, AttOwn.nil _ _, by rw [HF.out]; rfl, (hbw3.setCell (p := ⟨w.heap.size + 1 + 1, 0, none⟩) hzz _).setCell (p := ⟨w.heap.size + 1 + 1, 1, none⟩) hzz _⟩
 have hll : nL = l := hbb.1 rfl
 have HR2 : Hid (r = if 32 < ms.length then (([], []), 3)
  else if (eModsK s l ms).2 != 0 then (([], []), (eModsK s l ms).2)
  else if sValid s (eModsK s l ms).1 != 0 then (([], []), sValid s (eModsK s l ms).1) else ((L n, (eModsK s l ms).1), 0)) := by
  show _ = _
  rw [HR.out]
  rw [hll, sameV_refl, HN.out]; simp
 have HL := Lib.hid hll
 clear HR hbb hll
 by_cases h32 : 32 < ms.length
 ·have hI : (32 : Int) < (ms.length : Int) := by omega
  have HF : Hid (r = (([], []), 3)) := by show _ = _; rw [HR2.out, if_pos h32]
  clear HR2 h32 hMd hVd hown3
  go_wp2_with fail
  exact bodyPost_ret (v := .tuple #[.agg #[.string ⟨#[]⟩, .slice none 0 0], .int .i64 3]) (by simp [results, Tryz.results21, go_sem, z0, z1, g0, g1]) rfl ⟨_, [], by rw [HF.out]; rfl, AttOwn.nil _ _, by rw [HF.out]; rfl, (hbw3.setCell (p := ⟨w.heap.size + 1 + 1, 0, none⟩) hzz _).setCell (p := ⟨w.heap.size + 1 + 1, 1, none⟩) hzz _⟩
 have hI : ¬ (32 : Int) < (ms.length : Int) := by omega
 have HR3 : Hid (r = if (eModsK s l ms).2 != 0 then (([], []), (eModsK s l ms).2)
  else if sValid s (eModsK s l ms).1 != 0 then (([], []), sValid s (eModsK s l ms).1) else ((L n, (eModsK s l ms).1), 0)) := by show _ = _; rw [HR2.out, if_neg h32]
 have HFit := Lib.hid hfit1
 have hwp1 : w.heap.size ≤ w1.heap.size := by omega
 clear HR2 hfit1
 go_wp2_with fail
 go_loopw [45] (fun i wr => ∃ (k : Nat) (av : Value) (xs : List (Idn.Att × Value)), k ≤ ms.length ∧ i = .int .i64 k ∧ AttOwn wr W.heap.size av xs ∧ Below w1.heap.size w3 wr ∧ wr.cell? ⟨w1.heap.size, 0, none⟩ = some (.string (B nN)) ∧ wr.cell? ⟨w1.heap.size, 1, none⟩ = some av ∧ wr.frozen? ⟨w1.heap.size, 1, none⟩ = false ∧ Hid (eModsK s l ms = eModsK s (xs.map (·.1)) (ms.drop k)) ∧ Hid (Fit (32 + k) (xs.map (·.1)))) (fun i _ => ms.length - (intOf i).toNat)
 case atStart => exact ⟨0, _, ps1, Nat.zero_le _, rfl, hown3, Below.refl _ _, p0, p1, pf, by show _ = _; rw [HP1.out, HL.out]; simp, by show Fit _ _; rw [HP1.out]; exact HFit.out⟩
 case round =>
  obtain ⟨k, av, xs, hk, rfl, hown, hb, o0, o1, of, hinv, hfx⟩ := hrel
  obtain ⟨Ax, cx, hav⟩ := own_shape hown.1
  subst hav
  have hbw := hbw3.trans (hb.mono hwp1)
  have hwr := hb.size
  replace q0 := (hb.cell (p := ⟨w.heap.size, 0, none⟩) (by show w.heap.size < w1.heap.size; omega)).trans q0
  replace q1 := (hb.cell (p := ⟨w.heap.size, 1, none⟩) (by show w.heap.size < w1.heap.size; omega)).trans q1
  replace z0 := (hb.cell (p := ⟨w.heap.size + 1 + 1, 0, none⟩) hzW1).trans z0
  replace z1 := (hb.cell (p := ⟨w.heap.size + 1 + 1, 1, none⟩) hzW1).trans z1
  replace g0 := (hb.frozen (p := ⟨w.heap.size + 1 + 1, 0, none⟩) hzW1).trans g0
  replace g1 := (hb.frozen (p := ⟨w.heap.size + 1 + 1, 1, none⟩) hzW1).trans g1
  have hzr : w.heap.size + 1 + 1 < wr.heap.size := by omega
  have hpr : w1.heap.size < wr.heap.size := by omega
  clear p0 p1 pf hown3
  obtain ⟨wo, hwo⟩ : ∃ wo : World, wo = wr := ⟨_, rfl⟩
  subst hwo
  by_cases hlt : k < ms.length
  ·obtain ⟨bm, om, vk, hAm, hbk, d0, d1, d2, hvk⟩ := ModsV.cell (ModsV.keep hm hbw) hlt
   subst hAm
   obtain ⟨Ak, ck2, rfl, hck2⟩ := SlV.shape hvk
   have hltI : (k : Int) < (ms.length : Int) := by omega
   obtain ⟨y1, y2, y3⟩ := hms ms[k] (List.getElem_mem hlt)
   obtain ⟨t1, t2⟩ := eModsK_step s ms k hlt _ _ hinv.out
   have T1 := Lib.hid t1
   have T2 := Lib.hid t2
   have hfn := fun r (hq9 : eMod s (xs.map (·.1)) ms[k] = (r, 0)) => eMod_fit hfx.out hq9
   have hk90 : 32 + k ≤ 90 := by omega
   have hwp : w.heap.size < wo.heap.size := by omega
   clear t1 t2 hinv hVd hbk
   go_upto_region 9 with fail
   with_reducible refine gen1 (R := fun W => Code.wp Tryz.prog _ _ _ W) ?_
   intro W6 hbW6 hszW6 hc6 _
   have m0 : W6.cell? ⟨wo.heap.size, 0, none⟩ = some (.int .i64 ms[k].op) := hc6 0 _ rfl
   have m1 : W6.cell? ⟨wo.heap.size, 1, none⟩ = some (.string (B ms[k].name)) := hc6 1 _ rfl
   have m2 : W6.cell? ⟨wo.heap.size, 2, none⟩ = some (.slice Ak ms[k].vals.length ck2) := hc6 2 _ rfl
   replace q0 := cell_later hbW6 q0
   replace q1 := cell_later hbW6 q1
   replace z0 := cell_later hbW6 z0
   replace z1 := cell_later hbW6 z1
   replace o0 := cell_later hbW6 o0
   replace o1 := cell_later hbW6 o1
   replace g0 := (hbW6.frozen (p := ⟨w.heap.size + 1 + 1, 0, none⟩) hzr).trans g0
   replace g1 := (hbW6.frozen (p := ⟨w.heap.size + 1 + 1, 1, none⟩) hzr).trans g1
   replace of := (hbW6.frozen (p := ⟨w1.heap.size, 1, none⟩) hpr).trans of
   have hbw6 := hbw.trans (hbW6.mono hbw.size)
   have hz6 : w.heap.size + 1 + 1 < W6.heap.size := by omega
   have hp6 : w1.heap.size < W6.heap.size := by omega
   have hM := hMd W6 hbw6 (.slice Ax xs.length cx) (xs.map (·.1)) ms[k].op (B ms[k].name) (.slice Ak ms[k].vals.length ck2) ms[k].vals (32 + k) ((hown.keep hbW6).atts rfl) (SlV.mono (SlV.keep hvk (hbW6.mono hbw.size)) hbw6.size) hfx.out hk90 (by rw [Idn.size_B]; exact y1) y2 y3
   rw [Idn.L_B] at hM
   have hM' : Calls Tryz.prog 60 _ W6 (RetA W6 (eMod s (xs.map (·.1)) ms[k])) := hM
   have hb06 := hb.trans (hbW6.mono (by omega))
   clear hM hMd hc6 d0 d1 d2 hown hvk hfx y1 y2 y3
   generalize eMod s (xs.map (·.1)) ms[k] = er at *
   obtain ⟨eL, eE⟩ := er
   go_wp2_with fail
   refine hM'.mono ?_
   rintro e w7 ⟨v7, ps7, rfl, hown7, hps7, hb7⟩
   obtain ⟨A7, c7, hv7⟩ := own_shape hown7.1
   subst hv7
   have HP7 := Lib.hid hps7
   replace z0 := cell_later hb7 z0
   replace z1 := cell_later hb7 z1
   replace o0 := cell_later hb7 o0
   replace o1 := cell_later hb7 o1
   replace g0 := (hb7.frozen (p := ⟨w.heap.size + 1 + 1, 0, none⟩) hz6).trans g0
   replace g1 := (hb7.frozen (p := ⟨w.heap.size + 1 + 1, 1, none⟩) hz6).trans g1
   replace of := (hb7.frozen (p := ⟨w1.heap.size, 1, none⟩) hp6).trans of
   have hbw7 := hbw6.trans (hb7.mono hbw6.size)
   clear hM' hps7 q0 q1 m0 m1 m2
   by_cases hee : eE = 0
   case neg =>
    have hI9 : (eE != 0) = true := by simpa using hee
    have HE : eModsK s l ms = ([], eE) := T1.out hee
    have HF : Hid (r = (([], []), eE)) := by show _ = _; rw [HR3.out, HE]; dsimp only; rw [if_pos hI9]
    clear HR3 hee T1 T2 HE hfn hown7
    go_wp2_with fail
    exact bodyPost_ret (v := .tuple #[.agg #[.string ⟨#[]⟩, .slice none 0 0], .int .i64 eE]) (by simp [results, Tryz.results21, go_sem, z0, z1, g0, g1]) rfl ⟨_, [], by rw [HF.out]; rfl, AttOwn.nil _ _, by rw [HF.out]; rfl, (hbw7.setCell (p := ⟨w.heap.size + 1 + 1, 0, none⟩) hzz _).setCell (p := ⟨w.heap.size + 1 + 1, 1, none⟩) hzz _⟩
   subst hee
   have HE : Hid (eModsK s l ms = eModsK s eL (ms.drop (k + 1))) := T2.out rfl
   have hfn2 := hfn _ rfl
   have HFN : Hid (Fit (32 + (k + 1)) (ps7.map (·.1))) := by show Fit _ _; rw [HP7.out]; exact hfn2
   have hA8 := (hown7.apart_box w1.heap.size 1 (.slice A7 ps7.length c7) hp6).base (base' := W.heap.size) (by omega)
   have hb07 : Below w1.heap.size w3 w7 := hb06.trans (hb7.mono (by omega))
   have hb08 := hb07.setCell (p := ⟨w1.heap.size, 1, none⟩) (Nat.le_refl _) (.slice A7 ps7.length c7)
   have HA8 := Lib.hid hA8
   have r0 : (w7.setCell ⟨w1.heap.size, 1, none⟩ (.slice A7 ps7.length c7)).cell? ⟨w1.heap.size, 0, none⟩ = some (.string (B nN)) := by
    rw [World.cell?_setCell_other _ _ _ _ (by intro e; injection e with e1 e2; omega)]; exact o0
   have r1 : (w7.setCell ⟨w1.heap.size, 1, none⟩ (.slice A7 ps7.length c7)).cell? ⟨w1.heap.size, 1, none⟩ = some (.slice A7 ps7.length c7) := World.cell?_setCell_same _ _ _ o1
   have rf : (w7.setCell ⟨w1.heap.size, 1, none⟩ (.slice A7 ps7.length c7)).frozen? ⟨w1.heap.size, 1, none⟩ = false := by simpa using of
   clear hfn hfn2 T1 T2 hown7 hA8 hb7 hbW6
   go_wp2_with fail
   go_roundw
   case rel => exact ⟨k + 1, _, ps7, by omega, by go_num, HA8.out, hb08, r0, r1, rf, by show _ = _; rw [HE.out, HP7.out], HFN⟩
   case measure => simp [intOf]; omega
  ·have hltI : ¬ (k : Int) < (ms.length : Int) := by omega
   have HEX : eModsK s l ms = (xs.map (·.1), 0) := by rw [hinv.out, List.drop_eq_nil_of_le (by omega)]; rfl
   obtain ⟨hq1, hq2⟩ := hfx.out.asm (by omega)
   have hVl := hVd wo hbw (B nN) _ (xs.map (·.1)) (hown.atts rfl) hq1 hq2
   have HR4 : Hid (r = if sValid s (xs.map (·.1)) != 0 then (([], []), sValid s (xs.map (·.1))) else ((L n, xs.map (·.1)), 0)) := by show _ = _; rw [HR3.out, HEX]; rfl
   generalize sValid s (xs.map (·.1)) = se at *
   clear hinv HEX hfx HR3 hVd hMd hq1 hq2
   go_wp2_with fail
   refine hVl.mono ?_
   rintro e w12 ⟨rfl, hb12⟩
   replace z0 := cell_later hb12 z0
   replace z1 := cell_later hb12 z1
   replace o0 := cell_later hb12 o0
   replace o1 := cell_later hb12 o1
   replace g0 := (hb12.frozen (p := ⟨w.heap.size + 1 + 1, 0, none⟩) hzr).trans g0
   replace g1 := (hb12.frozen (p := ⟨w.heap.size + 1 + 1, 1, none⟩) hzr).trans g1
   have hbw12 := hbw.trans (hb12.mono hbw.size)
   have hA12 := hown.keep hb12
   clear hVl q0 q1 hown
   by_cases hse : se = 0
   ·subst hse
    have HF : Hid (r = ((L n, xs.map (·.1)), 0)) := by show _ = _; rw [HR4.out]; rfl
    have hA13 := (hA12.apart_box (w.heap.size + 1 + 1) 0 (.string (B nN)) hzW).apart_box (w.heap.size + 1 + 1) 1 (.slice Ax xs.length cx) hzW
    have HA13 := Lib.hid (hA13.base (base' := w.heap.size) (by omega))
    clear HR4 hA12 hA13
    go_wp2_with fail
    exact bodyPost_ret (v := .tuple #[.agg #[.string (B nN), .slice Ax xs.length cx], .int .i64 0]) (by simp [results, Tryz.results21, go_sem, z0, z1, g0, g1]) rfl ⟨_, _, by rw [HF.out, HN.out], HA13.out, by rw [HF.out], (hbw12.setCell (p := ⟨w.heap.size + 1 + 1, 0, none⟩) hzz _).setCell (p := ⟨w.heap.size + 1 + 1, 1, none⟩) hzz _⟩
   ·have hI9 : (se != 0) = true := by simpa using hse
    have HF : Hid (r = (([], []), se)) := by show _ = _; rw [HR4.out, if_pos hI9]
    clear HR4 hA12 hse
    go_wp2_with fail
    exact bodyPost_ret (v := .tuple #[.agg #[.string ⟨#[]⟩, .slice none 0 0], .int .i64 se]) (by simp [results, Tryz.results21, go_sem, z0, z1, g0, g1]) rfl ⟨_, [], by rw [HF.out]; rfl, AttOwn.nil _ _, by rw [HF.out]; rfl, (hbw12.setCell (p := ⟨w.heap.size + 1 + 1, 0, none⟩) hzz _).setCell (p := ⟨w.heap.size + 1 + 1, 1, none⟩) hzz _⟩
end Go.Proofs.YtoopoglkeeoamaaGreatDoor
/- identityref03.Same, identityref06: Same, Equal; identityref08: SameAttrs, Same, Equal. -/
namespace Go.Proofs.YtoopoglkeeoamaaGreatDoor
open Go.RowKit Go.Sort
open Idn (L B Bs drop_L take_L size_L)
theorem sameA_any (v u : Value) (a b : List Idn.Att) (r : Bool) (hr : r = true ↔ a = b) (w : World) (hv : AttsV w w.heap.size v a) (hu : AttsV w w.heap.size u b) (ha : a.length ≤ 1000000000) (hb : b.length ≤ 1000000000) (hav : ∀ m ∈ a, m.vals.length ≤ 1000000000) (hbv : ∀ m ∈ b, m.vals.length ≤ 1000000000) :
  Calls Tryz.prog 34 #[v, u] w fun e w' => e = .returned (.bool r) ∧ Below w.heap.size w w' := by
 obtain ⟨A, c, rfl, _⟩ := SlV.shape hv
 obtain ⟨A2, c2, rfl, _⟩ := SlV.shape hu
 go_enter Tryz.func34, Tryz.ntmps34
 by_cases h0 : a.length = b.length
 ·have h0I : ((a.length : Int) != (b.length : Int)) = false := by rw [h0]; simp
  have H0 := Lib.hid h0
  have HRR := Lib.hid hr
  clear h0 hr
  go_wp2_with fail
  go_loopw [5] (fun i wr => ∃ (k : Nat), k ≤ a.length ∧ i = .int .i64 k ∧ Below w.heap.size w wr ∧ Hid (a.take k = b.take k)) (fun i _ => a.length - (intOf i).toNat)
  case atStart => exact ⟨0, Nat.zero_le _, rfl, Below.refl _ _, rfl⟩
  case round =>
   obtain ⟨k, hk, rfl, hbw, hinv⟩ := hrel
   obtain ⟨wo, hwo⟩ : ∃ wo : World, wo = wr := ⟨_, rfl⟩
   subst hwo
   by_cases hlt : k < a.length
   ·have hlt' : k < b.length := by have := H0.out; omega
    obtain ⟨b1, o1, v1, hA, hb1, d1, d2, ds⟩ := AttsV.cell (hv.keep hbw) hlt
    obtain ⟨b2, o2, v2, hA2, hb2, e1, e2, es⟩ := AttsV.cell (hu.keep hbw) hlt'
    subst hA hA2
    obtain ⟨Av, cv, rfl, _⟩ := ds.shape
    obtain ⟨Aw, cw, rfl, _⟩ := es.shape
    have hltI : (k : Int) < (a.length : Int) := by omega
    have hltJ : (k : Int) < (b.length : Int) := by omega
    have ht := B_beq a[k].name b[k].name
    have q0 := fun (rr : Bool) (hrr : rr = true ↔ a[k].vals = b[k].vals) (W : World) (hW : Below wo.heap.size wo W) => sameS_any _ _ a[k].vals b[k].vals rr hrr W (SlV.mono (SlV.keep ds (hW.mono hbw.size)) (hbw.trans (hW.mono hbw.size)).size) (SlV.mono (SlV.keep es (hW.mono hbw.size)) (hbw.trans (hW.mono hbw.size)).size) (hav _ (List.getElem_mem _)) (hbv _ (List.getElem_mem _))
    have k1 := cell_regrown d1
    have k2 := cell_regrown d2
    have l1 := cell_regrown e1
    have l2 := cell_regrown e2
    have hne := get_ne hlt hlt'
    have hte := take_ext hinv.out hlt hlt'
    clear hinv ds es d1 d2 e1 e2
    by_cases hn : a[k].name = b[k].name
    case neg =>
     rw [decide_eq_false hn] at ht
     have HF := Lib.hid (no_true HRR.out (hne fun e => hn (by rw [e])))
     clear hn q0 hne hte
     go_wp2
     refine wp_region_quiet_below (by kernel_rfl) (by kernel_rfl) ?_
     repeat (first | go_big_quiet_step ((fail)) | quiet_step ((fail)))
     refine wpQuiet_nil ?_
     intro _ hw'
     obtain ⟨⟨dq, osq⟩, hw''⟩ := hw'
     subst hw''
     have hb4 := below_regrown wo dq osq
     generalize grow (redrawn wo dq) osq = W4 at hb4 ⊢
     go_wp2_with fail
     go_ret
     exact ⟨ret_bool HF.out.symm, hbw.trans (hb4.mono hbw.size)⟩
    rw [decide_eq_true hn] at ht
    by_cases hs : a[k].vals = b[k].vals
    case neg =>
     have q1 := cq (W := wo) (q0 false ⟨fun h => (by cases h), fun h => absurd h hs⟩)
     have HF := Lib.hid (no_true HRR.out (hne fun e => hs (by rw [e])))
     clear hn q0 hne hte hs
     go_wp2
     refine wp_region_quiet_below (by kernel_rfl) (by kernel_rfl) ?_
     repeat (first | go_big_quiet_step ((go_at_call 39; exact q1 _ _)) | quiet_step ((go_at_call 39; exact q1 _ _)))
     refine wpQuiet_nil ?_
     intro _ hw'
     obtain ⟨⟨dq, osq⟩, hw''⟩ := hw'
     subst hw''
     have hb4 := below_regrown wo dq osq
     generalize grow (redrawn wo dq) osq = W4 at hb4 ⊢
     clear q1
     go_wp2_with fail
     go_ret
     exact ⟨ret_bool HF.out.symm, hbw.trans (hb4.mono hbw.size)⟩
    have q1 := cq (W := wo) (q0 true ⟨fun _ => hs, fun _ => rfl⟩)
    have HF := Lib.hid (hte (att_ext hn hs))
    clear hn q0 hne hte hs
    go_wp2
    refine wp_region_quiet_below (by kernel_rfl) (by kernel_rfl) ?_
    repeat (first | go_big_quiet_step ((go_at_call 39; exact q1 _ _)) | quiet_step ((go_at_call 39; exact q1 _ _)))
    refine wpQuiet_nil ?_
    intro _ hw'
    obtain ⟨⟨dq, osq⟩, hw''⟩ := hw'
    subst hw''
    have hb4 := below_regrown wo dq osq
    generalize grow (redrawn wo dq) osq = W4 at hb4 ⊢
    clear q1
    go_wp2_with fail
    go_roundw
    case rel => exact ⟨k + 1, by omega, by go_num, hbw.trans (hb4.mono hbw.size), HF⟩
    case measure => simp [intOf]; omega
   ·have hltI : ¬ (k : Int) < (a.length : Int) := by omega
    have hltJ : ¬ (k : Int) < (b.length : Int) := by have := H0.out; omega
    have HF : Hid (r = true) := HRR.out.2 (by
     have h1 := hinv.out
     have h2 := H0.out
     rwa [List.take_of_length_le (by omega), List.take_of_length_le (by omega)] at h1)
    clear hinv
    go_wp2
    go_ret
    exact ⟨ret_bool HF.out.symm, hbw⟩
 ·have h0I : ((a.length : Int) != (b.length : Int)) = true := by rw [bne_iff_ne]; omega
  have HF := Lib.hid (no_true hr fun h => h0 (by rw [h]))
  go_wp2_with fail
  go_ret
  exact ⟨ret_bool HF.out.symm, Below.refl _ _⟩
theorem r8_Same_any (n m : ByteArray) (a b : Value) (l k : List Idn.Att) (r : Bool) (hr : r = true ↔ L n = L m ∧ l = k) (w : World) (ha : AttsV w w.heap.size a l) (hb : AttsV w w.heap.size b k) (hl : l.length ≤ 1000000000) (hk : k.length ≤ 1000000000) (hlv : ∀ x ∈ l, x.vals.length ≤ 1000000000) (hkv : ∀ x ∈ k, x.vals.length ≤ 1000000000) :
  Calls Tryz.prog 19 #[.agg #[.string n, a], .agg #[.string m, b]] w fun e w' => e = .returned (.bool r) ∧ Below w.heap.size w w' := by
 have hS := fun rr hrr W (hW : Below w.heap.size w W) => sameA_any a b l k rr hrr W (AttsV.mono (AttsV.keep ha hW) hW.size) (AttsV.mono (AttsV.keep hb hW) hW.size) hl hk hlv hkv
 obtain ⟨A, c, rfl, _⟩ := SlV.shape ha
 obtain ⟨A2, c2, rfl, _⟩ := SlV.shape hb
 have ht : (n.toList == m.toList) = decide (L n = L m) := str_beq n m
 go_enter Tryz.func19, Tryz.ntmps19
 go_upto_region 1 with fail
 with_reducible refine gen2 (R := fun W => Code.wp Tryz.prog _ _ _ W) ?_
 intro W hbW hszW hc1 hc2
 have a0 : W.cell? ⟨w.heap.size, 0, none⟩ = some (.string n) := hc1 0 _ rfl
 have a1 : W.cell? ⟨w.heap.size, 1, none⟩ = some (.slice A l.length c) := hc1 1 _ rfl
 have b0 : W.cell? ⟨w.heap.size + 1, 0, none⟩ = some (.string m) := hc2 0 _ rfl
 have b1 : W.cell? ⟨w.heap.size + 1, 1, none⟩ = some (.slice A2 k.length c2) := hc2 1 _ rfl
 clear hc1 hc2 hszW
 by_cases hn : L n = L m
 ·rw [decide_eq_true hn] at ht
  have hq := hS r ⟨fun h => (hr.1 h).2, fun h => hr.2 ⟨hn, h⟩⟩ W hbW
  clear hS hr hn
  go_wp2_with fail
  refine hq.mono ?_
  rintro e w1 ⟨rfl, hb1⟩
  go_wp2_with fail
  go_ret
  exact ⟨by first | rfl | (cases r <;> rfl), hbW.trans (hb1.mono hbW.size)⟩
 ·rw [decide_eq_false hn] at ht
  have HF := Lib.hid (no_true hr fun h => hn h.1)
  clear hS hr hn
  go_wp2_with fail
  go_ret
  exact ⟨ret_bool HF.out.symm, hbW⟩
end Go.Proofs.YtoopoglkeeoamaaGreatDoor
