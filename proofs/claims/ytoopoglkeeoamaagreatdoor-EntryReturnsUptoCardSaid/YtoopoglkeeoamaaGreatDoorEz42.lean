/- Part 42 of the proof that identitylaw08.EntryParses and EntryReturns return true: the package variables hold what the program lays; nothing else is asked. -/
import Derived.Test.YtoopoglkeeoamaaGreatDoorEz14
import Derived.Test.YtoopoglkeeoamaaGreatDoorEz24
import Derived.Test.YtoopoglkeeoamaaGreatDoorEz27
import Derived.Test.YtoopoglkeeoamaaGreatDoorEz30
import Derived.Test.YtoopoglkeeoamaaGreatDoorEz37
import Derived.Test.YtoopoglkeeoamaaGreatDoorEz39
import Derived.Test.YtoopoglkeeoamaaGreatDoorEz40
import Derived.Test.YtoopoglkeeoamaaGreatDoorEz41
set_option linter.unusedVariables false
set_option linter.unusedSimpArgs false
/- law08: Small, short, ann, small. -/
namespace Go.Proofs.YtoopoglkeeoamaaGreatDoor
open Go.RowKit Go.Sort
open Idn (L B Bs drop_L take_L size_L)
set_option maxRecDepth 100000 in
theorem ann_any (A : Option Addr) (n c : Nat) (w : World) :
    Calls Tryz.prog 37 #[.slice A n c] w fun e w' => e = .returned (.agg #[.string ⟨#[99, 110, 61, 97, 110, 110]⟩, .slice A n c]) ∧ Below w.heap.size w w' := by
  go_enter Tryz.func37, Tryz.ntmps37
  go_upto_region 1 with fail
  with_reducible refine gen1 (R := fun W => Code.wp Tryz.prog _ _ _ W) ?_
  intro W hbW hszW hc1 hfz
  have z0 : W.cell? ⟨w.heap.size, 0, none⟩ = some (.string ⟨#[]⟩) := hc1 0 _ rfl
  have z1 : W.cell? ⟨w.heap.size, 1, none⟩ = some (.slice none 0 0) := hc1 1 _ rfl
  have g0 := hfz 0
  have g1 := hfz 1
  clear hc1 hfz
  go_wp2_with fail
  exact bodyPost_ret (v := .agg #[.string ⟨#[99, 110, 61, 97, 110, 110]⟩, .slice A n c]) (by simp [results, Tryz.results37, go_sem, z0, z1, g0, g1]) rfl ⟨rfl, (hbW.setCell (p := ⟨w.heap.size, 0, none⟩) (Nat.le_refl _) _).setCell (p := ⟨w.heap.size, 1, none⟩) (Nat.le_refl _) _⟩
theorem twoS {W : World} {v : Value} {x y : Bs} {e : TypeId} (h : W.ownsRow 0 e 1 v 2 [sv x, sv y]) : StrsV W W.heap.size v [x, y] := StrsV.of_own (l := [x, y]) h
set_option maxHeartbeats 1000000 in
set_option maxRecDepth 100000 in
theorem small8_any (w : World) :
    Calls Tryz.prog 38 #[] w fun e w' => ∃ v, e = .returned v ∧ SchV w' w'.heap.size v E8.smallS ∧ Below w.heap.size w w' := by
  go_enter Tryz.func38, Tryz.ntmps38
  go_wp2
  with_reducible refine genW (R := fun W => bodyPost _ _ _ _ _ W) (Q := fun W => (W.cell? ⟨w.heap.size, 0, none⟩ = some (.slice (some ⟨w.heap.size + 1, 0, none⟩) 4 4) ∧ W.cell? ⟨w.heap.size, 1, none⟩ = some (.slice (some ⟨w.heap.size + 1 + 1 + 1 + 1, 0, none⟩) 1 1)) ∧
    SchV W W.heap.size (.agg #[.slice (some ⟨w.heap.size + 1, 0, none⟩) 4 4, .slice (some ⟨w.heap.size + 1 + 1 + 1 + 1, 0, none⟩) 1 1]) E8.smallS ∧ Below w.heap.size w W) ?_ ?_
  · refine ⟨⟨?_, ?_⟩, ⟨_, _, rfl, ?_, ?_⟩, ?_⟩
    · refine Eq.trans (World.ownsRow.cellAt (n := 1) (size := 2) ((((((litR w _ 1 2 _ _ rfl (by decide) rfl).alloc _).alloc _).alloc _).alloc _)) 0 (by decide)) ?_
      rfl
    · refine Eq.trans (World.ownsRow.cellAt (n := 1) (size := 2) ((((((litR w _ 1 2 _ _ rfl (by decide) rfl).alloc _).alloc _).alloc _).alloc _)) 1 (by decide)) ?_
      rfl
    · refine SlV.own ((((litR _ _ 4 3 _ _ (by simp) (by decide) rfl).alloc _).alloc _).alloc _) fun i x hx => ?_
      match i, hx with
      | 0, hx => injection hx with hx; subst hx; exact ⟨_, rfl, rfl, fun j u hj => by match j, hj with | 0, hj => exact hj | 1, hj => exact hj | 2, hj => exact hj⟩
      | 1, hx => injection hx with hx; subst hx; exact ⟨_, rfl, rfl, fun j u hj => by match j, hj with | 0, hj => exact hj | 1, hj => exact hj | 2, hj => exact hj⟩
      | 2, hx => injection hx with hx; subst hx; exact ⟨_, rfl, rfl, fun j u hj => by match j, hj with | 0, hj => exact hj | 1, hj => exact hj | 2, hj => exact hj⟩
      | 3, hx => injection hx with hx; subst hx; exact ⟨_, rfl, rfl, fun j u hj => by match j, hj with | 0, hj => exact hj | 1, hj => exact hj | 2, hj => exact hj⟩
    · refine SlV.own (litR _ _ 1 4 _ _ (by simp) (by decide) rfl) fun i x hx => ?_
      match i, hx with
      | 0, hx =>
        injection hx with hx; subst hx
        exact ⟨[sv E8.personN, sv [], .slice (some ⟨w.heap.size + 1 + 1, 0, none⟩) 2 2, .slice (some ⟨w.heap.size + 1 + 1 + 1, 0, none⟩) 2 2], rfl, ⟨_, _, rfl, twoS (((litR _ _ 2 1 _ _ (by simp) (by decide) rfl).alloc _).alloc _), twoS ((litR _ _ 2 1 _ _ (by simp) (by decide) rfl).alloc _)⟩, fun j u hj => by match j, hj with | 0, hj => exact hj | 1, hj => exact hj | 2, hj => exact hj | 3, hj => exact hj⟩
    · repeat (first | with_reducible exact Below.refl _ _ | with_reducible refine Below.lay ?_ _)
  · rintro W ⟨⟨k0, k1⟩, hS, hb⟩
    exact bodyPost_ret (by simp [results, Tryz.results38, go_sem, k0, k1]) rfl ⟨_, rfl, hS, hb⟩
end Go.Proofs.YtoopoglkeeoamaaGreatDoor
/- entry: same. -/
namespace Go.Proofs.YtoopoglkeeoamaaGreatDoor
open Go.RowKit Go.Sort
open Idn (L B Bs drop_L take_L size_L)
theorem mapB_eq (a b : List Bs) : decide ((a.map B).take a.length = (b.map B).take b.length) = (a == b) := by
  rw [List.take_of_length_le (by simp), List.take_of_length_le (by simp)]
  have : a.map B = b.map B ↔ a = b := ⟨fun h => by
    have h2 := congrArg (List.map L) h
    simpa [List.map_map, Function.comp_def, Idn.L_B] using h2, fun h => by rw [h]⟩
  by_cases h : a = b
  · subst h; simp
  · rw [decide_eq_false (fun e => h (this.1 e))]; exact (beq_eq_false_iff_ne.2 h).symm
theorem equalS_any (v u : Value) (a b : List Bs) (w : World) (hi hi' : Nat) (hv : StrsV w hi v a) (hu : StrsV w hi' u b) (ha : a.length ≤ 1000000000) (hb : b.length ≤ 1000000000) :
    Calls Tryz.prog 113 #[v, u] w fun e w' => e = .returned (.bool (a == b)) ∧ ∃ q, w' = w.drewN q := by
  obtain ⟨A, c, rfl, hc⟩ := hv.shape
  obtain ⟨A2, c2, rfl, hc2⟩ := hu.shape
  by_cases h0 : a.length = b.length
  · by_cases h1 : a.length = 0
    · have ha0 : a = [] := List.eq_nil_of_length_eq_zero h1
      subst ha0
      have hb0 : b = [] := List.eq_nil_of_length_eq_zero (h0 ▸ h1)
      subst hb0
      exact (Tryz.slices_Equal_string_empty A A2 c 0 c2 w (by omega)).mono fun e w' ⟨h1, h2⟩ => ⟨h1, 0, h2⟩
    · obtain ⟨b1, o1, rfl, hb1, _⟩ := StrsV.cell hv (k := 0) (by omega)
      obtain ⟨b2, o2, rfl, hb2, _⟩ := StrsV.cell hu (k := 0) (by omega)
      have h := Tryz.slices_Equal_string b1 o1 a.length c b2 o2 b.length c2 (a.map B) (b.map B) w (by simp) (by simp) (by omega) (by omega) (fun j hj => ?_) (fun j hj => ?_)
      · rw [mapB_eq] at h; exact h
      · rw [List.length_map] at hj
        obtain ⟨b', off', hA', _, hcc⟩ := StrsV.cell hv hj
        injection hA' with hA'
        injection hA' with h1 h2
        subst h1 h2
        rw [hcc]
        simp [List.getD_eq_getElem?_getD, hj]
      · rw [List.length_map] at hj
        obtain ⟨b', off', hA', _, hcc⟩ := StrsV.cell hu hj
        injection hA' with hA'
        injection hA' with h1 h2
        subst h1 h2
        rw [hcc]
        simp [List.getD_eq_getElem?_getD, hj]
  · have e : (a == b) = false := beq_eq_false_iff_ne.2 fun e => h0 (by rw [e])
    rw [e]
    exact (Tryz.slices_Equal_string_lens A A2 a.length c b.length c2 w h0).mono fun e w' ⟨h1, h2⟩ => ⟨h1, 0, h2⟩
theorem below_drew0 (w : World) (q : Nat) : Below w.heap.size w (w.drewN q) := by
  have h := below_drewn w q #[]
  rwa [grow_empty] at h
set_option maxRecDepth 100000 in
theorem esame1_any (x y : Bs) (v u : Value) (a b : List Bs) (w : World) (hi hi' : Nat) (hv : StrsV w hi v a) (hu : StrsV w hi' u b) (hhi : hi ≤ w.heap.size) (hhi' : hi' ≤ w.heap.size) (ha : a.length ≤ 1000000000) (hb : b.length ≤ 1000000000) :
    Calls Tryz.prog 112 #[.agg #[.string (B x), v], .agg #[.string (B y), u]] w fun e w' => e = .returned (.bool (x == y && a == b)) ∧ ∃ q os', w' = grow (w.drewN q) os' := by
  obtain ⟨A, c, rfl, hc⟩ := hv.shape
  obtain ⟨A2, c2, rfl, hc2⟩ := hu.shape
  have hE := fun W (hW : Below w.heap.size w W) => equalS_any _ _ a b W _ _ ((hv.mono hhi).keep hW) ((hu.mono hhi').keep hW) ha hb
  go_enter Tryz.func112, Tryz.ntmps112
  go_upto_region 1 with fail
  with_reducible refine gen2D (R := fun W => Code.wp Tryz.prog _ _ _ W) ?_
  intro W hbW hdr hc1 hc2
  have x0 : W.cell? ⟨w.heap.size, 0, none⟩ = some (.string (B x)) := hc1 0 _ rfl
  have x1 : W.cell? ⟨w.heap.size, 1, none⟩ = some (.slice A a.length c) := hc1 1 _ rfl
  have y0 : W.cell? ⟨w.heap.size + 1, 0, none⟩ = some (.string (B y)) := hc2 0 _ rfl
  have y1 : W.cell? ⟨w.heap.size + 1, 1, none⟩ = some (.slice A2 b.length c2) := hc2 1 _ rfl
  have hE0 := hE W hbW
  have HD := Lib.hid hdr
  clear hdr hc1 hc2 hE
  by_cases h : x = y
  · subst h
    go_wp2_with fail
    refine hE0.mono ?_
    rintro e w2 ⟨rfl, q, rfl⟩
    go_wp2
    go_ret
    refine ⟨by simp, grown_form (hbW.trans ((below_drew0 W q).mono hbW.size)) ?_⟩
    show w.drawn ≤ W.drawn + q
    have := HD.out
    omega
  · have hne : ¬ (B x).toList = (B y).toList := by rw [toList_L, toList_L, Idn.L_B, Idn.L_B]; exact h
    have ht : ((B x).toList == (B y).toList) = false := beq_eq_false_iff_ne.2 hne
    have hxy : (x == y) = false := beq_eq_false_iff_ne.2 h
    go_wp2_with fail
    go_ret
    refine ⟨by rw [hxy]; rfl, grown_form hbW ?_⟩
    have := HD.out
    omega
end Go.Proofs.YtoopoglkeeoamaaGreatDoor
/- entry: same, the loop. -/
namespace Go.Proofs.YtoopoglkeeoamaaGreatDoor
open Go.RowKit Go.Sort
open Idn (L B Bs drop_L take_L size_L)
theorem no_true {r : Bool} {p : Prop} (h : r = true ↔ p) (hn : ¬ p) : r = false := by cases r with
  | false => rfl
  | true => exact absurd (h.1 rfl) hn
theorem att_ext {a b : Idn.Att} (h1 : a.name = b.name) (h2 : a.vals = b.vals) : a = b := by cases a; cases b; simp_all
set_option maxRecDepth 100000 in
set_option maxHeartbeats 1000000 in
theorem equalA_any (v u : Value) (l m : List Idn.Att) (r : Bool) (hr : r = true ↔ l = m) (w : World) (hv : AttsV w w.heap.size v l) (hu : AttsV w w.heap.size u m) (hl : l.length ≤ 1000000) (hm : m.length ≤ 1000000) (hl2 : ∀ x ∈ l, x.vals.length ≤ 1000000000) (hm2 : ∀ x ∈ m, x.vals.length ≤ 1000000000) :
    Calls Tryz.prog 111 #[v, u, .func (.func 112) #[] #[]] w fun e w' => e = .returned (.bool r) ∧ Below w.heap.size w w' := by
  obtain ⟨A, c, rfl, hc⟩ := SlV.shape hv
  obtain ⟨A2, c2, rfl, hc2⟩ := SlV.shape hu
  go_enter Tryz.func111, Tryz.ntmps111
  by_cases h0 : l.length = m.length
  · have h0I : ((l.length : Int) != (m.length : Int)) = false := by rw [h0]; simp
    have H0 := Lib.hid h0
    have HRR := Lib.hid hr
    clear h0 hr
    go_wp2_with fail
    go_loopw [17] (fun i wr => ∃ (k : Nat), k ≤ l.length ∧ i = .int .i64 k ∧ Below w.heap.size w wr ∧ Hid (l.take k = m.take k)) (fun i _ => l.length - (intOf i).toNat)
    case atStart => exact ⟨0, Nat.zero_le _, rfl, Below.refl _ _, rfl⟩
    case round =>
      obtain ⟨k, hk, rfl, hb, hinv⟩ := hrel
      obtain ⟨wo, hwo⟩ : ∃ wo : World, wo = wr := ⟨_, rfl⟩
      subst hwo
      by_cases hlt : k < l.length
      · have h0' : k < m.length := by have := H0.out; omega
        obtain ⟨b1, o1, v1, hA, hb1, d0, d1, ds⟩ := AttsV.cell (hv.keep hb) hlt
        obtain ⟨b2, o2, v2, hA2, hb2, e0, e1, es⟩ := AttsV.cell (hu.keep hb) h0'
        subst hA hA2
        obtain ⟨Av, cv, rfl, _⟩ := ds.shape
        obtain ⟨Aw, cw, rfl, _⟩ := es.shape
        have hltI : (k : Int) < (l.length : Int) := by omega
        have hltJ : (k : Int) < (m.length : Int) := by omega
        have hC := fun (W : World) (hW : Below w.heap.size wo W) => esame1_any l[k].name (m[k]'h0').name _ _ l[k].vals (m[k]'h0').vals W w.heap.size w.heap.size (ds.keep hW) (es.keep hW) (Nat.le_trans hb.size hW.size) (Nat.le_trans hb.size hW.size) (hl2 _ (List.getElem_mem _)) (hm2 _ (List.getElem_mem _))
        have hfl : (l[k].name == (m[k]'h0').name && l[k].vals == (m[k]'h0').vals) = false → l ≠ m := fun h e => by subst e; simp at h
        have htr : (l[k].name == (m[k]'h0').name && l[k].vals == (m[k]'h0').vals) = true → Hid (l.take (k + 1) = m.take (k + 1)) := fun h => by
          rw [Bool.and_eq_true, beq_iff_eq, beq_iff_eq] at h
          show _ = _
          rw [List.take_succ_eq_append_getElem hlt, List.take_succ_eq_append_getElem h0', hinv.out, att_ext h.1 h.2]
        clear hinv
        generalize (l[k].name == (m[k]'h0').name && l[k].vals == (m[k]'h0').vals) = bb at *
        generalize l[k].name = n1 at *
        generalize (m[k]'h0').name = n2 at *
        generalize l[k].vals.length = z1 at *
        generalize (m[k]'h0').vals.length = z2 at *
        go_upto_region 6 with fail
        with_reducible refine gen1 (R := fun W => Code.wp Tryz.prog _ _ _ W) ?_
        intro W6 hbW6 hszW6 hc6 _
        have x0 : W6.cell? ⟨wo.heap.size, 0, none⟩ = some (.string (B n1)) := hc6 0 _ rfl
        have x1 : W6.cell? ⟨wo.heap.size, 1, none⟩ = some (.slice Av z1 cv) := hc6 1 _ rfl
        replace e0 := cell_later hbW6 e0
        replace e1 := cell_later hbW6 e1
        clear hc6 d0 d1 hszW6
        go_upto_region 7 with fail
        with_reducible refine gen1 (R := fun W => Code.wp Tryz.prog _ _ _ W) ?_
        intro W7 hbW7 hszW7 hc7 _
        have y0 : W7.cell? ⟨W6.heap.size, 0, none⟩ = some (.string (B n2)) := hc7 0 _ rfl
        have y1 : W7.cell? ⟨W6.heap.size, 1, none⟩ = some (.slice Aw z2 cw) := hc7 1 _ rfl
        replace x0 := cell_later hbW7 x0
        replace x1 := cell_later hbW7 x1
        have hB2 : Below w.heap.size wo W7 := (hbW6.trans (hbW7.mono hbW6.size)).mono hb.size
        clear hc7 e0 e1 hszW7 hbW6 hbW7 ds es
        go_wp2_with fail
        refine (hC W7 hB2).mono ?_
        rintro e w2 ⟨rfl, q, os, rfl⟩
        have hb7 := (hb.trans hB2).trans ((below_drewn W7 q os).mono (hb.trans hB2).size)
        generalize grow (W7.drewN q) os = w2 at *
        clear hC x0 x1 y0 y1
        cases bb
        · have HN := Lib.hid (no_true HRR.out (hfl rfl))
          clear hfl htr
          go_wp2_with fail
          go_ret
          exact ⟨ret_bool HN.out.symm, hb7⟩
        · have HF := htr rfl
          clear hfl htr
          go_wp2_with fail
          go_roundw
          case rel => exact ⟨k + 1, by omega, by go_num, hb7, HF⟩
          case measure => simp [intOf]; omega
      · have hltI : ¬ (k : Int) < (l.length : Int) := by omega
        have hltJ : ¬ (k : Int) < (m.length : Int) := by have := H0.out; omega
        have HF : Hid (r = true) := HRR.out.2 (by
          have h1 := hinv.out
          have h2 := H0.out
          rwa [List.take_of_length_le (by omega), List.take_of_length_le (by omega)] at h1)
        clear hinv
        go_wp2_with fail
        go_ret
        exact ⟨ret_bool HF.out.symm, hb⟩
  · have h0I : ((l.length : Int) != (m.length : Int)) = true := by rw [bne_iff_ne]; omega
    have HF := Lib.hid (no_true hr fun h => h0 (by rw [h]))
    go_wp2_with fail
    go_ret
    exact ⟨ret_bool HF.out.symm, Below.refl _ _⟩
set_option maxRecDepth 100000 in
theorem esame_any (v u : Value) (l m : List Idn.Att) (r : Bool) (hr : r = true ↔ l = m) (w : World) (hv : AttsV w w.heap.size v l) (hu : AttsV w w.heap.size u m) (hl : l.length ≤ 1000000) (hm : m.length ≤ 1000000) (hl2 : ∀ x ∈ l, x.vals.length ≤ 1000000000) (hm2 : ∀ x ∈ m, x.vals.length ≤ 1000000000) :
    Calls Tryz.prog 59 #[v, u] w fun e w' => e = .returned (.bool r) ∧ Below w.heap.size w w' := by
  have hE := equalA_any v u l m r hr w hv hu hl hm hl2 hm2
  clear hr
  go_enter Tryz.func59, Tryz.ntmps59
  go_wp2_with fail
  refine hE.mono ?_
  rintro e w1 ⟨rfl, hb⟩
  go_wp2
  go_ret
  exact ⟨rfl, hb⟩
end Go.Proofs.YtoopoglkeeoamaaGreatDoor
/- identityref08: SameStrings, SameMods. -/
namespace Go.Proofs.YtoopoglkeeoamaaGreatDoor
open Go.RowKit Go.Sort
open Idn (L B Bs drop_L take_L size_L)
theorem md_ext {a b : Md} (h1 : a.op = b.op) (h2 : a.name = b.name) (h3 : a.vals = b.vals) : a = b := by cases a; cases b; simp_all
theorem B_beq (a b : Bs) : ((B a).toList == (B b).toList) = decide (a = b) := by rw [str_beq, Idn.L_B, Idn.L_B]
theorem take_ext {α : Type} {a b : List α} {k : Nat} (h : a.take k = b.take k) (h1 : k < a.length) (h2 : k < b.length) (he : a[k] = b[k]) : a.take (k + 1) = b.take (k + 1) := by
  rw [List.take_succ_eq_append_getElem h1, List.take_succ_eq_append_getElem h2, h, he]
theorem get_ne {α : Type} {a b : List α} {k : Nat} (h1 : k < a.length) (h2 : k < b.length) (he : a[k] ≠ b[k]) : a ≠ b := fun h => he (by subst h; rfl)
set_option maxHeartbeats 1000000 in
set_option maxRecDepth 100000 in
theorem sameS_any (v u : Value) (a b : List Bs) (r : Bool) (hr : r = true ↔ a = b) (w : World) (hv : StrsV w w.heap.size v a) (hu : StrsV w w.heap.size u b) (ha : a.length ≤ 1000000000) (hb : b.length ≤ 1000000000) :
    Calls Tryz.prog 39 #[v, u] w fun e w' => e = .returned (.bool r) ∧ Below w.heap.size w w' := by
  obtain ⟨A, c, rfl, _⟩ := SlV.shape hv
  obtain ⟨A2, c2, rfl, _⟩ := SlV.shape hu
  go_enter Tryz.func39, Tryz.ntmps39
  by_cases h0 : a.length = b.length
  · have h0I : ((a.length : Int) != (b.length : Int)) = false := by rw [h0]; simp
    have H0 := Lib.hid h0
    have HRR := Lib.hid hr
    clear h0 hr
    go_wp2_with fail
    go_loopw [5] (fun i wr => ∃ (k : Nat), k ≤ a.length ∧ i = .int .i64 k ∧ Below w.heap.size w wr ∧ Hid (a.take k = b.take k)) (fun i _ => a.length - (intOf i).toNat)
    case atStart => exact ⟨0, Nat.zero_le _, rfl, Below.refl _ _, rfl⟩
    case round =>
      obtain ⟨k, hk, rfl, hbw, hinv⟩ := hrel
      by_cases hlt : k < a.length
      · have hlt' : k < b.length := by have := H0.out; omega
        obtain ⟨b1, o1, hA, hb1, d0⟩ := StrsV.cell (SlV.keep hv hbw) hlt
        obtain ⟨b2, o2, hA2, hb2, e0⟩ := StrsV.cell (SlV.keep hu hbw) hlt'
        subst hA hA2
        have hltI : (k : Int) < (a.length : Int) := by omega
        have hltJ : (k : Int) < (b.length : Int) := by omega
        have ht := B_beq a[k] b[k]
        by_cases he : a[k] = b[k]
        · have HF := Lib.hid (take_ext hinv.out hlt hlt' he)
          rw [decide_eq_true he] at ht
          clear hinv he
          generalize B a[k] = x at *
          generalize B b[k] = y at *
          go_wp2
          go_quiet (fail)
          go_wp2
          go_roundw
          case rel => exact ⟨k + 1, by omega, by go_num, below_drewN hbw _, HF⟩
          case measure => simp [intOf]; omega
        · have HF := Lib.hid (no_true HRR.out (get_ne hlt hlt' he))
          rw [decide_eq_false he] at ht
          clear hinv he
          generalize B a[k] = x at *
          generalize B b[k] = y at *
          go_wp2
          go_quiet (fail)
          go_wp2
          go_ret
          exact ⟨ret_bool HF.out.symm, below_drewN hbw _⟩
      · have hltI : ¬ (k : Int) < (a.length : Int) := by omega
        have hltJ : ¬ (k : Int) < (b.length : Int) := by have := H0.out; omega
        have HF : Hid (r = true) := HRR.out.2 (by
          have h1 := hinv.out
          have h2 := H0.out
          rwa [List.take_of_length_le (by omega), List.take_of_length_le (by omega)] at h1)
        clear hinv
        go_wp2
        go_ret
        exact ⟨ret_bool HF.out.symm, hbw⟩
  · have h0I : ((a.length : Int) != (b.length : Int)) = true := by rw [bne_iff_ne]; omega
    have HF := Lib.hid (no_true hr fun h => h0 (by rw [h]))
    go_wp2_with fail
    go_ret
    exact ⟨ret_bool HF.out.symm, Below.refl _ _⟩
set_option maxHeartbeats 2000000 in
set_option maxRecDepth 100000 in
theorem sameMods_any (v u : Value) (a b : List Md) (r : Bool) (hr : r = true ↔ a = b) (w : World) (hv : ModsV w w.heap.size v a) (hu : ModsV w w.heap.size u b) (ha : a.length ≤ 1000000000) (hb : b.length ≤ 1000000000) (hav : ∀ m ∈ a, m.vals.length ≤ 1000000000) (hbv : ∀ m ∈ b, m.vals.length ≤ 1000000000) :
    Calls Tryz.prog 28 #[v, u] w fun e w' => e = .returned (.bool r) ∧ Below w.heap.size w w' := by
  obtain ⟨A, c, rfl, _⟩ := SlV.shape hv
  obtain ⟨A2, c2, rfl, _⟩ := SlV.shape hu
  go_enter Tryz.func28, Tryz.ntmps28
  by_cases h0 : a.length = b.length
  · have h0I : ((a.length : Int) != (b.length : Int)) = false := by rw [h0]; simp
    have H0 := Lib.hid h0
    have HRR := Lib.hid hr
    clear h0 hr
    go_wp2_with fail
    go_loopw [5] (fun i wr => ∃ (k : Nat), k ≤ a.length ∧ i = .int .i64 k ∧ Below w.heap.size w wr ∧ Hid (a.take k = b.take k)) (fun i _ => a.length - (intOf i).toNat)
    case atStart => exact ⟨0, Nat.zero_le _, rfl, Below.refl _ _, rfl⟩
    case round =>
      obtain ⟨k, hk, rfl, hbw, hinv⟩ := hrel
      obtain ⟨wo, hwo⟩ : ∃ wo : World, wo = wr := ⟨_, rfl⟩
      subst hwo
      by_cases hlt : k < a.length
      · have hlt' : k < b.length := by have := H0.out; omega
        obtain ⟨b1, o1, v1, hA, hb1, d0, d1, d2, ds⟩ := ModsV.cell (hv.keep hbw) hlt
        obtain ⟨b2, o2, v2, hA2, hb2, e0, e1, e2, es⟩ := ModsV.cell (hu.keep hbw) hlt'
        subst hA hA2
        obtain ⟨Av, cv, rfl, _⟩ := ds.shape
        obtain ⟨Aw, cw, rfl, _⟩ := es.shape
        have hltI : (k : Int) < (a.length : Int) := by omega
        have hltJ : (k : Int) < (b.length : Int) := by omega
        have ht := B_beq a[k].name b[k].name
        have q0 := fun (rr : Bool) (hrr : rr = true ↔ a[k].vals = b[k].vals) (W : World) (hW : Below wo.heap.size wo W) => sameS_any _ _ a[k].vals b[k].vals rr hrr W (SlV.mono (SlV.keep ds (hW.mono hbw.size)) (hbw.trans (hW.mono hbw.size)).size) (SlV.mono (SlV.keep es (hW.mono hbw.size)) (hbw.trans (hW.mono hbw.size)).size) (hav _ (List.getElem_mem _)) (hbv _ (List.getElem_mem _))
        have k0 := cell_regrown d0
        have k1 := cell_regrown d1
        have k2 := cell_regrown d2
        have l0 := cell_regrown e0
        have l1 := cell_regrown e1
        have l2 := cell_regrown e2
        have hne := get_ne hlt hlt'
        have hte := take_ext hinv.out hlt hlt'
        clear hinv ds es d0 d1 d2 e0 e1 e2
        by_cases ho : a[k].op = b[k].op
        case neg =>
          have hoI : (a[k].op != b[k].op) = true := by rw [bne_iff_ne]; exact ho
          have HF := Lib.hid (no_true HRR.out (hne fun e => ho (by rw [e])))
          clear ho q0 hne hte ht
          go_wp2
          refine wp_region_quiet_below (by kernel_rfl) (by kernel_rfl) ?_
          repeat (first | go_big_quiet_step ((fail)) | quiet_step ((fail)))
          refine wpQuiet_nil ?_
          intro _ hw'
          obtain ⟨⟨dq, osq⟩, hw''⟩ := hw'
          subst hw''
          have hb4 := below_regrown wo dq osq
          generalize grow (redrawn wo dq) osq = W4 at hb4 ⊢
          go_wp2_with fail
          go_ret
          exact ⟨ret_bool HF.out.symm, hbw.trans (hb4.mono hbw.size)⟩
        have hoI : (a[k].op != b[k].op) = false := by rw [ho]; simp
        by_cases hn : a[k].name = b[k].name
        case neg =>
          rw [decide_eq_false hn] at ht
          have HF := Lib.hid (no_true HRR.out (hne fun e => hn (by rw [e])))
          clear hn q0 hne hte ho
          go_wp2
          refine wp_region_quiet_below (by kernel_rfl) (by kernel_rfl) ?_
          repeat (first | go_big_quiet_step ((fail)) | quiet_step ((fail)))
          refine wpQuiet_nil ?_
          intro _ hw'
          obtain ⟨⟨dq, osq⟩, hw''⟩ := hw'
          subst hw''
          have hb4 := below_regrown wo dq osq
          generalize grow (redrawn wo dq) osq = W4 at hb4 ⊢
          go_wp2_with fail
          go_ret
          exact ⟨ret_bool HF.out.symm, hbw.trans (hb4.mono hbw.size)⟩
        rw [decide_eq_true hn] at ht
        by_cases hs : a[k].vals = b[k].vals
        case neg =>
          have q1 := cq (W := wo) (q0 false ⟨fun h => (by cases h), fun h => absurd h hs⟩)
          have HF := Lib.hid (no_true HRR.out (hne fun e => hs (by rw [e])))
          clear hn q0 hne hte hs ho
          go_wp2
          refine wp_region_quiet_below (by kernel_rfl) (by kernel_rfl) ?_
          repeat (first | go_big_quiet_step ((go_at_call 39; exact q1 _ _)) | quiet_step ((go_at_call 39; exact q1 _ _)))
          refine wpQuiet_nil ?_
          intro _ hw'
          obtain ⟨⟨dq, osq⟩, hw''⟩ := hw'
          subst hw''
          have hb4 := below_regrown wo dq osq
          generalize grow (redrawn wo dq) osq = W4 at hb4 ⊢
          clear q1
          go_wp2_with fail
          go_ret
          exact ⟨ret_bool HF.out.symm, hbw.trans (hb4.mono hbw.size)⟩
        have q1 := cq (W := wo) (q0 true ⟨fun _ => hs, fun _ => rfl⟩)
        have HF := Lib.hid (hte (md_ext ho hn hs))
        clear hn q0 hne hte hs ho
        go_wp2
        refine wp_region_quiet_below (by kernel_rfl) (by kernel_rfl) ?_
        repeat (first | go_big_quiet_step ((go_at_call 39; exact q1 _ _)) | quiet_step ((go_at_call 39; exact q1 _ _)))
        refine wpQuiet_nil ?_
        intro _ hw'
        obtain ⟨⟨dq, osq⟩, hw''⟩ := hw'
        subst hw''
        have hb4 := below_regrown wo dq osq
        generalize grow (redrawn wo dq) osq = W4 at hb4 ⊢
        clear q1
        go_wp2_with fail
        go_roundw
        case rel => exact ⟨k + 1, by omega, by go_num, hbw.trans (hb4.mono hbw.size), HF⟩
        case measure => simp [intOf]; omega
      · have hltI : ¬ (k : Int) < (a.length : Int) := by omega
        have hltJ : ¬ (k : Int) < (b.length : Int) := by have := H0.out; omega
        have HF : Hid (r = true) := HRR.out.2 (by
          have h1 := hinv.out
          have h2 := H0.out
          rwa [List.take_of_length_le (by omega), List.take_of_length_le (by omega)] at h1)
        clear hinv
        go_wp2
        go_ret
        exact ⟨ret_bool HF.out.symm, hbw⟩
  · have h0I : ((a.length : Int) != (b.length : Int)) = true := by rw [bne_iff_ne]; omega
    have HF := Lib.hid (no_true hr fun h => h0 (by rw [h]))
    go_wp2_with fail
    go_ret
    exact ⟨ret_bool HF.out.symm, Below.refl _ _⟩
end Go.Proofs.YtoopoglkeeoamaaGreatDoor
/- Plain: the lists that modifications lead through stay small. -/
namespace Go.Proofs.YtoopoglkeeoamaaGreatDoor
open Go.RowKit Go.Sort
open Idn (L B Bs)
/-- a list in normal form of at most k attributes, of few and short values -/
def Fit (k : Nat) (l : List Idn.Att) : Prop := Idn.rSorted l = l ∧ l.length ≤ k ∧ ∀ a ∈ l, a.name.length ≤ 64 ∧ a.vals.length ≤ 16 ∧ ∀ x ∈ a.vals, x.length ≤ 256
theorem Fit.asm7 {k : Nat} {l : List Idn.Att} (h : Fit k l) (hk : k ≤ 100) : Idn.ASm7 l :=
  ⟨by have := h.2.1; omega, fun a ha => by
    obtain ⟨h1, h2, h3⟩ := h.2.2 a ha
    exact ⟨by omega, by omega, fun x hx => by have := h3 x hx; omega⟩⟩
theorem mem_sorted {T : List Idn.Att} {a : Idn.Att} (h : a ∈ Idn.rSorted T) : a.vals = rGet (Idn.rSorted T) a.name ∧ ∃ b ∈ T, a.name = Idn.lower b.name := by
  unfold Idn.rSorted at h
  obtain ⟨m, hm, rfl⟩ := List.mem_map.1 h
  rw [Idn.insAll_mem] at hm
  unfold Idn.lows at hm
  obtain ⟨b, hb, rfl⟩ := List.mem_map.1 hm
  refine ⟨?_, b, (List.mem_filter.1 hb).1, rfl⟩
  rw [rGet_sorted, rGet_law]
  show Idn.insAll (Idn.valsOf T (Idn.lower b.name)) = Idn.insAll (Idn.valsOf T (Idn.lower (Idn.lower b.name)))
  rw [Idn.lower_lower]
theorem rGet_cases (S : List Idn.Att) (n : Bs) : rGet S n = [] ∨ ∃ a ∈ Idn.rSorted S, rGet S n = a.vals := by
  unfold rGet
  split
  · exact .inl rfl
  · split
    · exact .inl rfl
    · rename_i a ha; exact .inr ⟨a, List.mem_of_getElem? ha, rfl⟩
theorem Fit.get {k : Nat} {l : List Idn.Att} (h : Fit k l) (n : Bs) : (rGet l n).length ≤ 16 ∧ ∀ x ∈ rGet l n, x.length ≤ 256 := by
  rcases rGet_cases l n with e | ⟨a, ha, e⟩
  · rw [e]; simp
  · rw [h.1] at ha; rw [e]; exact ⟨(h.2.2 a ha).2.1, (h.2.2 a ha).2.2⟩
theorem Fit.set {k : Nat} {l : List Idn.Att} (h : Fit k l) (n : Bs) (v : List Bs) :
    (aSet (Idn.rSorted l) n v).length ≤ k + 1 ∧ ∀ a ∈ aSet (Idn.rSorted l) n v, (a.name.length ≤ 64 ∨ a.name.length ≤ n.length) ∧ (a.vals = Idn.insAll v ∨ a.vals = rGet l a.name) := by
  have hlen : (aSet (Idn.rSorted l) n v).length ≤ k + 1 := by
    unfold aSet
    refine Nat.le_trans (rSorted_le _) ?_
    rw [List.length_append, h.1]
    have h1 := List.length_filter_le (fun a : Idn.Att => !decide (a.name = Idn.lower n)) l
    have h2 := h.2.1
    simp only [List.length_cons, List.length_nil]
    omega
  refine ⟨hlen, fun a ha => ?_⟩
  have ha0 := ha
  unfold aSet at ha
  obtain ⟨h1, b, hb, h2⟩ := mem_sorted ha
  have h3 : a.vals = rGet (aSet (Idn.rSorted l) n v) a.name := h1
  rw [set_get] at h3
  refine ⟨?_, ?_⟩
  · rw [h2, Idn.length_lower]
    rcases List.mem_append.1 hb with hb | hb
    · have h4 := (List.mem_filter.1 hb).1
      rw [h.1] at h4
      exact .inl (h.2.2 b h4).1
    · rw [List.mem_singleton] at hb
      subst hb
      right
      show (Idn.lower n).length ≤ n.length
      rw [Idn.length_lower]; exact Nat.le_refl _
  · split at h3
    · exact .inl h3
    · exact .inr h3
theorem Fit.set7 {k : Nat} {l : List Idn.Att} (h : Fit k l) (hk : k ≤ 100) {n : Bs} {v : List Bs} (hn : n.length ≤ 1000000000) (hv : v.length ≤ 1050000) (hx : ∀ x ∈ v, x.length ≤ 1000000000) : Idn.ASm7 (aSet (Idn.rSorted l) n v) := by
  obtain ⟨h1, h2⟩ := h.set n v
  refine ⟨by omega, fun a ha => ?_⟩
  obtain ⟨h3, h4⟩ := h2 a ha
  refine ⟨by omega, ?_, fun x hx' => ?_⟩
  · rcases h4 with e | e
    · rw [e]; have := insAll_len v; omega
    · rw [e]; have := (h.get a.name).1; omega
  · rcases h4 with e | e
    · rw [e, Idn.insAll_mem] at hx'; exact hx x hx'
    · rw [e] at hx'; have := (h.get a.name).2 x hx'; omega
theorem Fit.setFit {k : Nat} {l : List Idn.Att} (h : Fit k l) {n : Bs} {v : List Bs} (hn : n.length ≤ 64) (hv : (Idn.insAll v).length ≤ 16) (hx : ∀ x ∈ v, x.length ≤ 256) : Fit (k + 1) (aSet (Idn.rSorted l) n v) := by
  obtain ⟨h1, h2⟩ := h.set n v
  refine ⟨by unfold aSet; exact rSorted_idem _, h1, fun a ha => ?_⟩
  obtain ⟨h3, h4⟩ := h2 a ha
  refine ⟨by omega, ?_, fun x hx' => ?_⟩
  · rcases h4 with e | e
    · rw [e]; exact hv
    · rw [e]; exact (h.get a.name).1
  · rcases h4 with e | e
    · rw [e, Idn.insAll_mem] at hx'; exact hx x hx'
    · rw [e] at hx'; exact (h.get a.name).2 x hx'
theorem rmK_len : ∀ (v old o : List Bs), rmK old v = some o → o.length ≤ old.length
  | [], old, o, h => by rw [rmK] at h; injection h with h; subst h; exact Nat.le_refl _
  | y :: v, old, o, h => by
    rw [rmK] at h
    split at h
    · exact Nat.le_trans (rmK_len v _ o h) List.length_erase_le
    · cases h
theorem eAtt_le (s : Idn.Sch) (a : Bs) (l : List Bs) : ∀ x ∈ (eAtt s a l).1, x.length ≤ 256 := by
  unfold eAtt
  split
  · intro x hx; cases hx
  · rename_i h1
    split
    · intro x hx; cases hx
    · exact (eVals_ok (by simpa using h1)).2
theorem lim_fit {k : Nat} {l r : List Idn.Att} {n : Bs} {v : List Bs} (h : Fit k l) (hn : n.length ≤ 64) (hx : ∀ x ∈ v, x.length ≤ 256) (hr : aLim (aSet (Idn.rSorted l) n v) n = (r, 0)) : Fit (k + 1) r := by
  unfold aLim at hr
  split at hr
  · simp at hr
  · rename_i h1
    simp only [Prod.mk.injEq, and_true] at hr
    subst hr
    have h2 := aSet_get l n v
    refine h.setFit hn ?_ hx
    rw [← h2]
    omega
theorem eMod_fit {s : Idn.Sch} {l : List Idn.Att} {m : Md} {r : List Idn.Att} {k : Nat} (h : Fit k l) (hr : eMod s l m = (r, 0)) : Fit (k + 1) r := by
  have hv := eAtt_le s m.name m.vals
  have hg := h.get m.name
  unfold eMod at hr
  split at hr
  · simp at hr
  · split at hr
    · simp at hr
    · split at hr
      · rename_i h1; simp only [Prod.mk.injEq] at hr; simp [hr.2] at h1
      · generalize (eAtt s m.name m.vals).1 = v at *
        split at hr
        · unfold aRemove at hr
          split at hr
          · simp at hr
          · rename_i hn0
            have hn : m.name.length ≤ 64 := name_len (by simpa using hn0)
            split at hr
            · simp at hr
            · split at hr
              · simp only [Prod.mk.injEq, and_true] at hr
                subst hr
                exact h.setFit hn (by simp [Idn.insAll]) fun x hx => by cases hx
              · split at hr
                · simp at hr
                · rename_i o ho
                  simp only [Prod.mk.injEq, and_true] at hr
                  subst hr
                  refine h.setFit hn ?_ fun x hx => hg.2 x (rmK_sub _ _ _ ho x hx)
                  have h1 := insAll_len o
                  have h2 := rmK_len _ _ _ ho
                  have h3 := hg.1
                  omega
        · split at hr
          · split at hr
            · unfold aAdd at hr
              split at hr
              · simp at hr
              · rename_i hn0
                have hn : m.name.length ≤ 64 := name_len (by simpa using hn0)
                split at hr
                · simp at hr
                · split at hr
                  · rename_i h1; simp only [Prod.mk.injEq] at hr; simp [hr.2] at h1
                  · refine lim_fit h hn (fun x hx => ?_) hr
                    rcases List.mem_append.1 hx with hx | hx
                    · exact hg.2 x hx
                    · exact hv x hx
            · simp at hr
          · unfold aReplace at hr
            split at hr
            · simp at hr
            · rename_i hn0
              have hn : m.name.length ≤ 64 := name_len (by simpa using hn0)
              split at hr
              · rename_i h1; simp only [Prod.mk.injEq] at hr; simp [hr.2] at h1
              · split at hr
                · simp at hr
                · exact lim_fit h hn hv hr
theorem fit_start {s : Idn.Sch} {n : Bs} {l : List Idn.Att} {x : En} (h : eNormal s n l = (x, 0)) : Fit 32 x.2 := by
  obtain ⟨_, _, h3, h4⟩ := nf_parts h
  have hc := sValid_check h4
  have h5 := Idn.aCheck_all hc
  have h6 := aCheck_zero hc
  exact ⟨h3.1, h6.1, fun a ha => ⟨name_len (h5.2.2 a ha).1, (h6.2 a ha).2, fun y hy => by
    have h7 := h3.2 a ha y hy
    have h8 := sNorm_le (s := s) (n := a.name) (v := y) (by rw [h7])
    rw [h7] at h8
    exact h8⟩⟩
end Go.Proofs.YtoopoglkeeoamaaGreatDoor
/- entry: modified, walked. -/
namespace Go.Proofs.YtoopoglkeeoamaaGreatDoor
open Go.RowKit Go.Sort
open Idn (L B Bs drop_L take_L size_L)
theorem eMod_unf (s : Idn.Sch) (l : List Idn.Att) (op : Int) (n : Bs) (vals : List Bs) : eMod s l ⟨op, n, vals⟩ = if op < 1 ∨ 3 < op then ([], 2)
  else if !(tyLook (sound s) n).2 then ([], 6)
  else if (eVals s n vals).2 != 0 then ([], (eVals s n vals).2)
  else if dupK [] (eVals s n vals).1 then ([], 7)
  else if op = 2 then aRemove l n (eVals s n vals).1
  else if op = 1 then (if 0 < (eVals s n vals).1.length then aAdd l n (eVals s n vals).1 else ([], 6))
  else aReplace l n (eVals s n vals).1 := by
  unfold eMod eAtt
  dsimp only
  by_cases h1 : op < 1 ∨ 3 < op
  · rw [if_pos h1, if_pos h1]
  · rw [if_neg h1, if_neg h1]
    by_cases h3 : (eVals s n vals).2 = 0
    · cases h4 : dupK [] (eVals s n vals).1 <;> simp [h3]
    · simp [h3]
set_option maxHeartbeats 2000000 in
set_option maxRecDepth 100000 in
theorem modified_any (u : Value) (s : Idn.Sch) (lv : Value) (l : List Idn.Att) (op : Int) (n : ByteArray) (mv : Value) (vals : List Bs) (k : Nat) (w : World) (hu : SchV w w.heap.size u s) (hs : SSm s) (hE : Env w) (hU : EnvU w) (hv : AttsV w w.heap.size lv l) (hm : StrsV w w.heap.size mv vals) (hf : Fit k l) (hk : k ≤ 90) (hn : n.size ≤ 1000000000) (hvl : vals.length ≤ 1048600) (hvx : ∀ x ∈ vals, x.length ≤ 100000000) :
    Calls Tryz.prog 60 #[u, lv, .agg #[.int .i64 op, .string n, mv]] w (RetA w (eMod s l ⟨op, L n, vals⟩)) := by
  have hTy := fun W (hW : Below w.heap.size w W) => type_any u s n W (SchV.mono (SchV.keep hu hW) hW.size) hs hn
  have hNo := fun W (hW : Below w.heap.size w W) => enorm_any u s n mv vals W (SchV.mono (SchV.keep hu hW) hW.size) hs (hE.keep hW) (hU.keep hW) (SlV.mono (SlV.keep hm hW) hW.size) hn hvl hvx
  have hA := fun W (hW : Below w.heap.size w W) => AttsV.mono (AttsV.keep hv hW) hW.size
  have hLn : (L n).length ≤ 1000000000 := by rw [← size_L]; exact hn
  have hl9 : l.length ≤ 890 := by have := hf.2.1; omega
  have h7 : Idn.ASm7 l := hf.asm7 (by omega)
  have h7s : Idn.ASm7 (Idn.rSorted l) := by rw [hf.1]; exact h7
  have hgl := hf.get (L n)
  have hRm := fun W (hW : Below w.heap.size w W) rv q (h : StrsV W W.heap.size rv q) h1 => remove_any lv l n rv q W (hA W hW) h h7 h7s hl9 hn h1 (by omega)
  have hAd := fun W (hW : Below w.heap.size w W) rv q (h : StrsV W W.heap.size rv q) (h1 : q.length ≤ 1048600) (h2 : ∀ x ∈ q, x.length ≤ 256) => add_any lv l n rv q W (hA W hW) h h7 h7s hl9 hn h1 (fun x hx => by have := h2 x hx; omega) (by omega) (hf.set7 (by omega) hLn (by rw [List.length_append]; omega) (fun x hx => by
    rcases List.mem_append.1 hx with hx | hx
    · have := hgl.2 x hx; omega
    · have := h2 x hx; omega))
  have hRp := fun W (hW : Below w.heap.size w W) rv q (h : StrsV W W.heap.size rv q) (h1 : q.length ≤ 1048600) (h2 : ∀ x ∈ q, x.length ≤ 256) => replace_any lv l n rv q W (hA W hW) h h7 h7s hl9 hn h1 (fun x hx => by have := h2 x hx; omega) (hf.set7 (by omega) hLn (by omega) (fun x hx => by have := h2 x hx; omega))
  have HR := Lib.hid (eMod_unf s l op (L n) vals)
  have hex := fun h => eVals_ok (s := s) (a := L n) (l := vals) h
  obtain ⟨sa, sb, rfl, hT, hC⟩ := hu
  obtain ⟨A1, c1, rfl, _⟩ := SlV.shape hT
  obtain ⟨A2, c2, rfl, _⟩ := SlV.shape hC
  obtain ⟨A, c, rfl, hc⟩ := SlV.shape hv
  obtain ⟨Am, cm, rfl, hcm⟩ := SlV.shape hm
  generalize eMod s l ⟨op, L n, vals⟩ = r at *
  generalize tyLook (sound s) (L n) = t at *
  obtain ⟨⟨tn, ty, ts⟩, ok⟩ := t
  generalize eVals s (L n) vals = ev at *
  obtain ⟨ex, ee⟩ := ev
  unfold tyV sv at hTy
  dsimp only at hTy hNo hex
  clear hT hC hA hgl h7 h7s hl9 hLn hE hU hs hvx
  go_enter Tryz.func60, Tryz.ntmps60
  go_upto_region 1 with fail
  with_reducible refine gen2 (R := fun W => Code.wp Tryz.prog _ _ _ W) ?_
  intro W hbW hszW hc1 hc2
  have q0 : W.cell? ⟨w.heap.size, 0, none⟩ = some (.slice A1 s.types.length c1) := hc1 0 _ rfl
  have q1 : W.cell? ⟨w.heap.size, 1, none⟩ = some (.slice A2 s.classes.length c2) := hc1 1 _ rfl
  have m0 : W.cell? ⟨w.heap.size + 1, 0, none⟩ = some (.int .i64 op) := hc2 0 _ rfl
  have m1 : W.cell? ⟨w.heap.size + 1, 1, none⟩ = some (.string n) := hc2 1 _ rfl
  have m2 : W.cell? ⟨w.heap.size + 1, 2, none⟩ = some (.slice Am vals.length cm) := hc2 2 _ rfl
  clear hc1 hc2 hszW
  by_cases h1 : op < 1
  · have HF : Hid (r = ([], 2)) := by show _ = _; rw [HR.out, if_pos (.inl h1)]
    clear HR hTy hNo hRm hAd hRp
    go_wp2_with fail
    go_ret2
    exact ⟨_, [], by rw [HF.out]; rfl, AttOwn.nil _ _, by rw [HF.out]; rfl, hbW⟩
  by_cases h3 : 3 < op
  · have HF : Hid (r = ([], 2)) := by show _ = _; rw [HR.out, if_pos (.inr h3)]
    clear HR hTy hNo hRm hAd hRp
    go_wp2_with fail
    go_ret2
    exact ⟨_, [], by rw [HF.out]; rfl, AttOwn.nil _ _, by rw [HF.out]; rfl, hbW⟩
  have HR2 : Hid (r = if !ok then ([], 6)
    else if ee != 0 then ([], ee)
    else if dupK [] ex then ([], 7)
    else if op = 2 then aRemove l (L n) ex
    else if op = 1 then (if 0 < ex.length then aAdd l (L n) ex else ([], 6))
    else aReplace l (L n) ex) := by show _ = _; rw [HR.out, if_neg (by omega)]
  clear HR
  go_wp2_with fail
  refine (hTy W hbW).mono ?_
  rintro e w1 ⟨rfl, hb1⟩
  clear hTy
  go_upto_region 4 with fail
  with_reducible refine gen1 (R := fun W => Code.wp Tryz.prog _ _ _ W) ?_
  intro W2 hbW2 _ _ _
  have hb12 := hb1.trans (hbW2.mono hb1.size)
  have hbw2 := hbW.trans (hb12.mono hbW.size)
  replace q0 := cell_later hb12 q0
  replace q1 := cell_later hb12 q1
  replace m0 := cell_later hb12 m0
  replace m1 := cell_later hb12 m1
  replace m2 := cell_later hb12 m2
  clear hb1 hbW2 hb12
  cases ok
  · have HF : Hid (r = ([], 6)) := HR2.out
    clear HR2 hNo hRm hAd hRp
    go_wp2_with fail
    go_ret2
    exact ⟨_, [], by rw [HF.out]; rfl, AttOwn.nil _ _, by rw [HF.out]; rfl, hbw2⟩
  go_wp2_with fail
  refine (hNo W2 hbw2).mono ?_
  rintro e w3 ⟨v3, rfl, hown3, hb3⟩
  obtain ⟨A3, c3, hv3⟩ := own_shape hown3
  subst hv3
  have hbw3 := hbw2.trans (hb3.mono hbw2.size)
  replace m0 := cell_later hb3 m0
  replace m1 := cell_later hb3 m1
  clear q0 q1 m2 hNo hbW
  by_cases hee : ee = 0
  case neg =>
    have hI : (ee != 0) = true := by simpa using hee
    have HF : Hid (r = ([], ee)) := by show _ = _; rw [HR2.out, hI]; rfl
    clear HR2 hRm hAd hRp hee hown3
    go_wp2_with fail
    go_ret2
    exact ⟨_, [], by rw [HF.out]; rfl, AttOwn.nil _ _, by rw [HF.out]; rfl, hbw3⟩
  subst hee
  obtain ⟨hxl, hxx⟩ := hex rfl
  have hS3 := StrsV.of_own hown3
  have hTw := etwice_any _ ex w3 hS3 (by omega)
  have hxl2 : ex.length ≤ 1048600 := by omega
  clear hex hxl hown3
  cases hd : dupK [] ex
  case true =>
    rw [hd] at hTw
    have HF : Hid (r = ([], 7)) := by show _ = _; rw [HR2.out, hd]; rfl
    clear HR2 hRm hAd hRp hS3 hd
    go_wp2_with fail
    refine hTw.mono ?_
    rintro e w4 ⟨rfl, hb4⟩
    go_wp2
    go_ret2
    exact ⟨_, [], by rw [HF.out]; rfl, AttOwn.nil _ _, by rw [HF.out]; rfl, hbw3.trans (hb4.mono hbw3.size)⟩
  rw [hd] at hTw
  have HR3 : Hid (r = if op = 2 then aRemove l (L n) ex
    else if op = 1 then (if 0 < ex.length then aAdd l (L n) ex else ([], 6))
    else aReplace l (L n) ex) := by show _ = _; rw [HR2.out, hd]; rfl
  clear HR2 hd
  go_wp2_with fail
  refine hTw.mono ?_
  rintro e w4 ⟨rfl, hb4⟩
  have hbw4 := hbw3.trans (hb4.mono hbw3.size)
  replace m0 := cell_later hb4 m0
  replace m1 := cell_later hb4 m1
  have hS4 := SlV.mono (SlV.keep hS3 hb4) hb4.size
  have kR := hRm w4 hbw4 _ ex hS4 hxl2
  have kA := hAd w4 hbw4 _ ex hS4 hxl2 hxx
  have kP := hRp w4 hbw4 _ ex hS4 hxl2 hxx
  clear hTw hS3 hRm hAd hRp hS4
  have hop : op = 1 ∨ op = 2 ∨ op = 3 := by omega
  rcases hop with rfl | rfl | rfl
  · clear kR kP
    by_cases hx0 : 0 < ex.length
    · have hI : (0 : Int) < (ex.length : Int) := by omega
      have HF : Hid (r = aAdd l (L n) ex) := by show _ = _; rw [HR3.out, if_neg (by decide), if_pos rfl, if_pos hx0]
      clear HR3 hx0 h1 h3
      generalize aAdd l (L n) ex = fin at *
      go_wp2_with fail
      refine kA.mono ?_
      rintro e w5 ⟨v5, ps5, rfl, hown5, hps5, hb5⟩
      clear kA
      go_wp2
      go_ret2
      exact ⟨_, ps5, by rw [HF.out]; rfl, hown5.base hbw4.size, by rw [HF.out]; exact hps5, hbw4.trans (hb5.mono hbw4.size)⟩
    · have hI : ¬ (0 : Int) < (ex.length : Int) := by omega
      have HF : Hid (r = ([], 6)) := by show _ = _; rw [HR3.out, if_neg (by decide), if_pos rfl, if_neg hx0]
      clear HR3 hx0 h1 h3 kA
      go_wp2_with fail
      go_ret2
      exact ⟨_, [], by rw [HF.out]; rfl, AttOwn.nil _ _, by rw [HF.out]; rfl, hbw4⟩
  · clear kA kP
    have HF : Hid (r = aRemove l (L n) ex) := by show _ = _; rw [HR3.out, if_pos rfl]
    clear HR3 h1 h3
    generalize aRemove l (L n) ex = fin at *
    go_wp2_with fail
    refine kR.mono ?_
    rintro e w5 ⟨v5, ps5, rfl, hown5, hps5, hb5⟩
    clear kR
    go_wp2
    go_ret2
    exact ⟨_, ps5, by rw [HF.out]; rfl, hown5.base hbw4.size, by rw [HF.out]; exact hps5, hbw4.trans (hb5.mono hbw4.size)⟩
  · clear kA kR
    have HF : Hid (r = aReplace l (L n) ex) := by show _ = _; rw [HR3.out, if_neg (by decide), if_neg (by decide)]
    clear HR3 h1 h3
    generalize aReplace l (L n) ex = fin at *
    go_wp2_with fail
    refine kP.mono ?_
    rintro e w5 ⟨v5, ps5, rfl, hown5, hps5, hb5⟩
    clear kP
    go_wp2
    go_ret2
    exact ⟨_, ps5, by rw [HF.out]; rfl, hown5.base hbw4.size, by rw [HF.out]; exact hps5, hbw4.trans (hb5.mono hbw4.size)⟩
end Go.Proofs.YtoopoglkeeoamaaGreatDoor
/- entry: Apply, walked. -/
namespace Go.Proofs.YtoopoglkeeoamaaGreatDoor
open Go.RowKit Go.Sort
open Idn (L B Bs drop_L take_L size_L)
theorem eApply_unf (s : Idn.Sch) (n : Bs) (l : List Idn.Att) (ms : List Md) : eApply s n l ms = if (eNormal s n l).2 != 0 || (!decide ((eNormal s n l).1.1 = n) || !sameV (eNormal s n l).1.2 l) then (([], []), 2)
  else if 32 < ms.length then (([], []), 3)
  else if (eModsK s l ms).2 != 0 then (([], []), (eModsK s l ms).2)
  else if sValid s (eModsK s l ms).1 != 0 then (([], []), sValid s (eModsK s l ms).1) else ((n, (eModsK s l ms).1), 0) := rfl
theorem eModsK_step (s : Idn.Sch) (ms : List Md) (k : Nat) (hk : k < ms.length) (cur : List Idn.Att) (r : List Idn.Att × Int) (h : r = eModsK s cur (ms.drop k)) :
    ((eMod s cur ms[k]).2 ≠ 0 → r = ([], (eMod s cur ms[k]).2)) ∧ ((eMod s cur ms[k]).2 = 0 → r = eModsK s (eMod s cur ms[k]).1 (ms.drop (k + 1))) := by
  rw [List.drop_eq_getElem_cons hk, eModsK] at h
  refine ⟨fun hn => ?_, fun hn => ?_⟩
  · rw [h, if_pos (by simpa using hn)]
  · rw [h, if_neg (by simpa using hn)]
theorem Fit.asm {k : Nat} {l : List Idn.Att} (h : Fit k l) (hk : k ≤ 100) : ASm l ∧ ASm5 l :=
  ⟨⟨by have := h.2.1; omega, fun a ha => by
    obtain ⟨h1, h2, h3⟩ := h.2.2 a ha
    exact ⟨by omega, by omega, fun x hx => by have := h3 x hx; omega⟩⟩, fun a ha => by
    obtain ⟨h1, h2, h3⟩ := h.2.2 a ha
    exact ⟨by omega, fun x hx => by have := h3 x hx; omega⟩⟩
def MBig (ms : List Md) : Prop := ∀ m ∈ ms, m.name.length ≤ 1000000000 ∧ m.vals.length ≤ 1048600 ∧ ∀ x ∈ m.vals, x.length ≤ 100000000
set_option maxHeartbeats 4000000 in
set_option maxRecDepth 100000 in
theorem apply_any (u : Value) (s : Idn.Sch) (n : ByteArray) (a : Value) (l : List Idn.Att) (mv : Value) (ms : List Md) (w : World) (hu : SchV w w.heap.size u s) (hs : SSm s) (hE : Env w) (hU : EnvU w) (hv : AttsV w w.heap.size a l) (hn : n.size ≤ 1000000000) (hsm : ASm l) (hs5 : ASm5 l) (hl6 : l.length ≤ 1000000) (hm : ModsV w w.heap.size mv ms) (hms : MBig ms) :
    Calls Tryz.prog 21 #[u, .agg #[.string n, a], mv] w (RetE w (eApply s (L n) l ms)) := by
  have hV := fun W (hW : Below w.heap.size w W) => SchV.mono (SchV.keep hu hW) hW.size
  have hA := fun W (hW : Below w.heap.size w W) => AttsV.mono (AttsV.keep hv hW) hW.size
  have hNm := fun W (hW : Below w.heap.size w W) => eNormal_any u s n a l W (hV W hW) hs (hE.keep hW) (hU.keep hW) (hA W hW) hn hsm hs5
  have hMd := fun W (hW : Below w.heap.size w W) lv cur op (nm : ByteArray) vv vs k h1 h2 h3 h4 h5 h6 h7 => modified_any u s lv cur op nm vv vs k W (hV W hW) hs (hE.keep hW) (hU.keep hW) h1 h2 h3 h4 h5 h6 h7
  have hVd := fun W (hW : Below w.heap.size w W) nm va q h1 h2 h3 => valid_any u s nm va q W (hV W hW) hs (hE.keep hW) (hU.keep hW) h1 h2 h3
  have hSm := fun W (hW : Below w.heap.size w W) va q rr hrr (h1 : AttsV W W.heap.size va q) h2 h3 => esame_any va a q l rr hrr W h1 (hA W hW) h2 hl6 h3 (fun x hx => (hsm.2 x hx).2.1)
  have hfit := fun x h => fit_start (s := s) (n := L n) (l := l) (x := x) h
  have HR := Lib.hid (eApply_unf s (L n) l ms)
  obtain ⟨au, bu, rfl, hT, hC⟩ := hu
  obtain ⟨A1, c1, rfl, _⟩ := SlV.shape hT
  obtain ⟨A2, c2, rfl, _⟩ := SlV.shape hC
  obtain ⟨A, c, rfl, hc⟩ := SlV.shape hv
  obtain ⟨Am, cm, rfl, hcm⟩ := SlV.shape hm
  generalize eApply s (L n) l ms = r at *
  generalize eNormal s (L n) l = nr at *
  obtain ⟨⟨nN, nL⟩, nE⟩ := nr
  skip
  clear hT hC hV hA hs hE hU hsm hs5 hl6
  go_enter Tryz.func21, Tryz.ntmps21
  go_upto_region 1 with fail
  with_reducible refine gen3 (R := fun W => Code.wp Tryz.prog _ _ _ W) ?_
  intro W hbW hszW hc1 hc2 hc3 hfz
  have q0 : W.cell? ⟨w.heap.size, 0, none⟩ = some (.slice A1 s.types.length c1) := hc1 0 _ rfl
  have q1 : W.cell? ⟨w.heap.size, 1, none⟩ = some (.slice A2 s.classes.length c2) := hc1 1 _ rfl
  have e0 : W.cell? ⟨w.heap.size + 1, 0, none⟩ = some (.string n) := hc2 0 _ rfl
  have e1 : W.cell? ⟨w.heap.size + 1, 1, none⟩ = some (.slice A l.length c) := hc2 1 _ rfl
  have z0 : W.cell? ⟨w.heap.size + 1 + 1, 0, none⟩ = some (.string ⟨#[]⟩) := hc3 0 _ rfl
  have z1 : W.cell? ⟨w.heap.size + 1 + 1, 1, none⟩ = some (.slice none 0 0) := hc3 1 _ rfl
  have g0 := hfz 0
  have g1 := hfz 1
  have hzW : w.heap.size + 1 + 1 < W.heap.size := by omega
  have hzz : w.heap.size ≤ w.heap.size + 1 + 1 := by omega
  clear hc1 hc2 hc3 hfz hszW
  go_wp2_with fail
  refine (hNm W hbW).mono ?_
  rintro e w1 ⟨v1, ps1, rfl, hown1, hps1, hb1⟩
  obtain ⟨A1', c1', hv1⟩ := own_shape hown1.1
  subst hv1
  have hws1 := hb1.size
  have HP1 := Lib.hid hps1
  replace q0 := cell_later hb1 q0
  replace q1 := cell_later hb1 q1
  replace e0 := cell_later hb1 e0
  replace e1 := cell_later hb1 e1
  replace z0 := cell_later hb1 z0
  replace z1 := cell_later hb1 z1
  replace g0 := (hb1.frozen (p := ⟨w.heap.size + 1 + 1, 0, none⟩) hzW).trans g0
  replace g1 := (hb1.frozen (p := ⟨w.heap.size + 1 + 1, 1, none⟩) hzW).trans g1
  have hzW1 : w.heap.size + 1 + 1 < w1.heap.size := by omega
  have hbw1 := hbW.trans (hb1.mono hbW.size)
  clear hNm hps1 hbW
  go_upto_region 2 with fail
  with_reducible refine gen1 (R := fun W => Code.wp Tryz.prog _ _ _ W) ?_
  intro W2 hbW2 hszW2 hc2 hfz2
  have p0 : W2.cell? ⟨w1.heap.size, 0, none⟩ = some (.string (B nN)) := hc2 0 _ rfl
  have p1 : W2.cell? ⟨w1.heap.size, 1, none⟩ = some (.slice A1' ps1.length c1') := hc2 1 _ rfl
  have pf := hfz2 1
  replace q0 := cell_later hbW2 q0
  replace q1 := cell_later hbW2 q1
  replace e0 := cell_later hbW2 e0
  replace e1 := cell_later hbW2 e1
  replace z0 := cell_later hbW2 z0
  replace z1 := cell_later hbW2 z1
  replace g0 := (hbW2.frozen (p := ⟨w.heap.size + 1 + 1, 0, none⟩) hzW1).trans g0
  replace g1 := (hbW2.frozen (p := ⟨w.heap.size + 1 + 1, 1, none⟩) hzW1).trans g1
  have hbw2 := hbw1.trans (hbW2.mono hbw1.size)
  have hown2 := hown1.keep hbW2
  have hzW2 : w.heap.size + 1 + 1 < W2.heap.size := by omega
  have hpW2 : w1.heap.size < W2.heap.size := by omega
  clear hc2 hfz2 hszW2 hbW2 hown1 hb1
  by_cases hnE : nE = 0
  case neg =>
    have hI : (nE != 0) = true := by simpa using hnE
    have HF : Hid (r = (([], []), 2)) := by show _ = _; rw [HR.out]; rw [hI]; rfl
    clear HR hnE hMd hVd hSm hfit hown2
    go_wp2_with fail
    exact bodyPost_ret (v := .tuple #[.agg #[.string ⟨#[]⟩, .slice none 0 0], .int .i64 2]) (by simp [results, Tryz.results21, go_sem, z0, z1, g0, g1]) rfl ⟨_, [], by rw [HF.out]; rfl, AttOwn.nil _ _, by rw [HF.out]; rfl, (hbw2.setCell (p := ⟨w.heap.size + 1 + 1, 0, none⟩) hzz _).setCell (p := ⟨w.heap.size + 1 + 1, 1, none⟩) hzz _⟩
  subst hnE
  have hfit1 : Fit 32 nL := hfit _ rfl
  have hem : ((B nN).toList == n.toList) = decide (nN = L n) := by rw [str_beq, Idn.L_B]
  clear hfit
  by_cases hnn : nN = L n
  case neg =>
    rw [decide_eq_false hnn] at hem
    have HF : Hid (r = (([], []), 2)) := by show _ = _; rw [HR.out]; rw [decide_eq_false hnn]; rfl
    clear HR hnn hMd hVd hSm hown2
    go_wp2_with fail
    exact bodyPost_ret (v := .tuple #[.agg #[.string ⟨#[]⟩, .slice none 0 0], .int .i64 2]) (by simp [results, Tryz.results21, go_sem, z0, z1, g0, g1]) rfl ⟨_, [], by rw [HF.out]; rfl, AttOwn.nil _ _, by rw [HF.out]; rfl, (hbw2.setCell (p := ⟨w.heap.size + 1 + 1, 0, none⟩) hzz _).setCell (p := ⟨w.heap.size + 1 + 1, 1, none⟩) hzz _⟩
  rw [decide_eq_true hnn] at hem
  obtain ⟨b, hbb⟩ : ∃ b : Bool, b = true ↔ nL = l := by
    by_cases h : nL = l
    · exact ⟨true, fun _ => h, fun _ => rfl⟩
    · exact ⟨false, fun e => (by cases e), fun e => absurd e h⟩
  have HBB := Lib.hid hbb
  have hSa := hSm W2 hbw2 _ nL b hbb (hown2.atts HP1.out) (by have := hfit1.2.1; omega) (fun x hx => by have := (hfit1.2.2 x hx).2.1; omega)
  have HN := Lib.hid hnn
  clear hSm hnn hbb
  go_wp2_with fail
  refine hSa.mono ?_
  rintro e w3 ⟨rfl, hb3⟩
  have hbb := HBB.out
  clear HBB
  have hbw3 := hbw2.trans (hb3.mono hbw2.size)
  have hws3 := hb3.size
  replace q0 := cell_later hb3 q0
  replace q1 := cell_later hb3 q1
  replace p0 := cell_later hb3 p0
  replace p1 := cell_later hb3 p1
  replace z0 := cell_later hb3 z0
  replace z1 := cell_later hb3 z1
  replace g0 := (hb3.frozen (p := ⟨w.heap.size + 1 + 1, 0, none⟩) hzW2).trans g0
  replace g1 := (hb3.frozen (p := ⟨w.heap.size + 1 + 1, 1, none⟩) hzW2).trans g1
  replace pf := (hb3.frozen (p := ⟨w1.heap.size, 1, none⟩) hpW2).trans pf
  have hown3 := hown2.keep hb3
  have hzW3 : w.heap.size + 1 + 1 < w3.heap.size := by omega
  have hpW3 : w1.heap.size < w3.heap.size := by omega
  clear hSa e0 e1 hem hown2 hzW2 hpW2 hb3 hbw2 hbw1
  cases b
  case false =>
    have hne : sameV nL l = false := by
      cases h : sameV nL l
      · rfl
      · have := hbb.2 (sameV_eq h); cases this
    have HF : Hid (r = (([], []), 2)) := by show _ = _; rw [HR.out]; rw [hne, HN.out]; simp
    clear HR hbb hMd hVd hown3 hne
    go_wp2_with fail
    exact bodyPost_ret (v := .tuple #[.agg #[.string ⟨#[]⟩, .slice none 0 0], .int .i64 2]) (by simp [results, Tryz.results21, go_sem, z0, z1, g0, g1]) rfl ⟨_, [], by rw [HF.out]; rfl, AttOwn.nil _ _, by rw [HF.out]; rfl, (hbw3.setCell (p := ⟨w.heap.size + 1 + 1, 0, none⟩) hzz _).setCell (p := ⟨w.heap.size + 1 + 1, 1, none⟩) hzz _⟩
  have hll : nL = l := hbb.1 rfl
  have HR2 : Hid (r = if 32 < ms.length then (([], []), 3)
    else if (eModsK s l ms).2 != 0 then (([], []), (eModsK s l ms).2)
    else if sValid s (eModsK s l ms).1 != 0 then (([], []), sValid s (eModsK s l ms).1) else ((L n, (eModsK s l ms).1), 0)) := by
    show _ = _
    rw [HR.out]
    rw [hll, sameV_refl, HN.out]; simp
  have HL := Lib.hid hll
  clear HR hbb hll
  by_cases h32 : 32 < ms.length
  · have hI : (32 : Int) < (ms.length : Int) := by omega
    have HF : Hid (r = (([], []), 3)) := by show _ = _; rw [HR2.out, if_pos h32]
    clear HR2 h32 hMd hVd hown3
    go_wp2_with fail
    exact bodyPost_ret (v := .tuple #[.agg #[.string ⟨#[]⟩, .slice none 0 0], .int .i64 3]) (by simp [results, Tryz.results21, go_sem, z0, z1, g0, g1]) rfl ⟨_, [], by rw [HF.out]; rfl, AttOwn.nil _ _, by rw [HF.out]; rfl, (hbw3.setCell (p := ⟨w.heap.size + 1 + 1, 0, none⟩) hzz _).setCell (p := ⟨w.heap.size + 1 + 1, 1, none⟩) hzz _⟩
  have hI : ¬ (32 : Int) < (ms.length : Int) := by omega
  have HR3 : Hid (r = if (eModsK s l ms).2 != 0 then (([], []), (eModsK s l ms).2)
    else if sValid s (eModsK s l ms).1 != 0 then (([], []), sValid s (eModsK s l ms).1) else ((L n, (eModsK s l ms).1), 0)) := by show _ = _; rw [HR2.out, if_neg h32]
  have HFit := Lib.hid hfit1
  have hwp1 : w.heap.size ≤ w1.heap.size := by omega
  clear HR2 hfit1
  go_wp2_with fail
  go_loopw [45] (fun i wr => ∃ (k : Nat) (av : Value) (xs : List (Idn.Att × Value)), k ≤ ms.length ∧ i = .int .i64 k ∧ AttOwn wr W.heap.size av xs ∧ Below w1.heap.size w3 wr ∧ wr.cell? ⟨w1.heap.size, 0, none⟩ = some (.string (B nN)) ∧ wr.cell? ⟨w1.heap.size, 1, none⟩ = some av ∧ wr.frozen? ⟨w1.heap.size, 1, none⟩ = false ∧ Hid (eModsK s l ms = eModsK s (xs.map (·.1)) (ms.drop k)) ∧ Hid (Fit (32 + k) (xs.map (·.1)))) (fun i _ => ms.length - (intOf i).toNat)
  case atStart => exact ⟨0, _, ps1, Nat.zero_le _, rfl, hown3, Below.refl _ _, p0, p1, pf, by show _ = _; rw [HP1.out, HL.out]; simp, by show Fit _ _; rw [HP1.out]; exact HFit.out⟩
  case round =>
    obtain ⟨k, av, xs, hk, rfl, hown, hb, o0, o1, of, hinv, hfx⟩ := hrel
    obtain ⟨Ax, cx, hav⟩ := own_shape hown.1
    subst hav
    have hbw := hbw3.trans (hb.mono hwp1)
    have hwr := hb.size
    replace q0 := (hb.cell (p := ⟨w.heap.size, 0, none⟩) (by show w.heap.size < w1.heap.size; omega)).trans q0
    replace q1 := (hb.cell (p := ⟨w.heap.size, 1, none⟩) (by show w.heap.size < w1.heap.size; omega)).trans q1
    replace z0 := (hb.cell (p := ⟨w.heap.size + 1 + 1, 0, none⟩) hzW1).trans z0
    replace z1 := (hb.cell (p := ⟨w.heap.size + 1 + 1, 1, none⟩) hzW1).trans z1
    replace g0 := (hb.frozen (p := ⟨w.heap.size + 1 + 1, 0, none⟩) hzW1).trans g0
    replace g1 := (hb.frozen (p := ⟨w.heap.size + 1 + 1, 1, none⟩) hzW1).trans g1
    have hzr : w.heap.size + 1 + 1 < wr.heap.size := by omega
    have hpr : w1.heap.size < wr.heap.size := by omega
    clear p0 p1 pf hown3
    obtain ⟨wo, hwo⟩ : ∃ wo : World, wo = wr := ⟨_, rfl⟩
    subst hwo
    by_cases hlt : k < ms.length
    · obtain ⟨bm, om, vk, hAm, hbk, d0, d1, d2, hvk⟩ := ModsV.cell (ModsV.keep hm hbw) hlt
      subst hAm
      obtain ⟨Ak, ck2, rfl, hck2⟩ := SlV.shape hvk
      have hltI : (k : Int) < (ms.length : Int) := by omega
      obtain ⟨y1, y2, y3⟩ := hms ms[k] (List.getElem_mem hlt)
      obtain ⟨t1, t2⟩ := eModsK_step s ms k hlt _ _ hinv.out
      have T1 := Lib.hid t1
      have T2 := Lib.hid t2
      have hfn := fun r (hq9 : eMod s (xs.map (·.1)) ms[k] = (r, 0)) => eMod_fit hfx.out hq9
      have hk90 : 32 + k ≤ 90 := by omega
      have hwp : w.heap.size < wo.heap.size := by omega
      clear t1 t2 hinv hVd hbk
      go_upto_region 9 with fail
      with_reducible refine gen1 (R := fun W => Code.wp Tryz.prog _ _ _ W) ?_
      intro W6 hbW6 hszW6 hc6 _
      have m0 : W6.cell? ⟨wo.heap.size, 0, none⟩ = some (.int .i64 ms[k].op) := hc6 0 _ rfl
      have m1 : W6.cell? ⟨wo.heap.size, 1, none⟩ = some (.string (B ms[k].name)) := hc6 1 _ rfl
      have m2 : W6.cell? ⟨wo.heap.size, 2, none⟩ = some (.slice Ak ms[k].vals.length ck2) := hc6 2 _ rfl
      replace q0 := cell_later hbW6 q0
      replace q1 := cell_later hbW6 q1
      replace z0 := cell_later hbW6 z0
      replace z1 := cell_later hbW6 z1
      replace o0 := cell_later hbW6 o0
      replace o1 := cell_later hbW6 o1
      replace g0 := (hbW6.frozen (p := ⟨w.heap.size + 1 + 1, 0, none⟩) hzr).trans g0
      replace g1 := (hbW6.frozen (p := ⟨w.heap.size + 1 + 1, 1, none⟩) hzr).trans g1
      replace of := (hbW6.frozen (p := ⟨w1.heap.size, 1, none⟩) hpr).trans of
      have hbw6 := hbw.trans (hbW6.mono hbw.size)
      have hz6 : w.heap.size + 1 + 1 < W6.heap.size := by omega
      have hp6 : w1.heap.size < W6.heap.size := by omega
      have hM := hMd W6 hbw6 (.slice Ax xs.length cx) (xs.map (·.1)) ms[k].op (B ms[k].name) (.slice Ak ms[k].vals.length ck2) ms[k].vals (32 + k) ((hown.keep hbW6).atts rfl) (SlV.mono (SlV.keep hvk (hbW6.mono hbw.size)) hbw6.size) hfx.out hk90 (by rw [Idn.size_B]; exact y1) y2 y3
      rw [Idn.L_B] at hM
      have hM' : Calls Tryz.prog 60 _ W6 (RetA W6 (eMod s (xs.map (·.1)) ms[k])) := hM
      have hb06 := hb.trans (hbW6.mono (by omega))
      clear hM hMd hc6 d0 d1 d2 hown hvk hfx y1 y2 y3
      generalize eMod s (xs.map (·.1)) ms[k] = er at *
      obtain ⟨eL, eE⟩ := er
      go_wp2_with fail
      refine hM'.mono ?_
      rintro e w7 ⟨v7, ps7, rfl, hown7, hps7, hb7⟩
      obtain ⟨A7, c7, hv7⟩ := own_shape hown7.1
      subst hv7
      have HP7 := Lib.hid hps7
      replace z0 := cell_later hb7 z0
      replace z1 := cell_later hb7 z1
      replace o0 := cell_later hb7 o0
      replace o1 := cell_later hb7 o1
      replace g0 := (hb7.frozen (p := ⟨w.heap.size + 1 + 1, 0, none⟩) hz6).trans g0
      replace g1 := (hb7.frozen (p := ⟨w.heap.size + 1 + 1, 1, none⟩) hz6).trans g1
      replace of := (hb7.frozen (p := ⟨w1.heap.size, 1, none⟩) hp6).trans of
      have hbw7 := hbw6.trans (hb7.mono hbw6.size)
      clear hM' hps7 q0 q1 m0 m1 m2
      by_cases hee : eE = 0
      case neg =>
        have hI9 : (eE != 0) = true := by simpa using hee
        have HE : eModsK s l ms = ([], eE) := T1.out hee
        have HF : Hid (r = (([], []), eE)) := by show _ = _; rw [HR3.out, HE]; dsimp only; rw [if_pos hI9]
        clear HR3 hee T1 T2 HE hfn hown7
        go_wp2_with fail
        exact bodyPost_ret (v := .tuple #[.agg #[.string ⟨#[]⟩, .slice none 0 0], .int .i64 eE]) (by simp [results, Tryz.results21, go_sem, z0, z1, g0, g1]) rfl ⟨_, [], by rw [HF.out]; rfl, AttOwn.nil _ _, by rw [HF.out]; rfl, (hbw7.setCell (p := ⟨w.heap.size + 1 + 1, 0, none⟩) hzz _).setCell (p := ⟨w.heap.size + 1 + 1, 1, none⟩) hzz _⟩
      subst hee
      have HE : Hid (eModsK s l ms = eModsK s eL (ms.drop (k + 1))) := T2.out rfl
      have hfn2 := hfn _ rfl
      have HFN : Hid (Fit (32 + (k + 1)) (ps7.map (·.1))) := by show Fit _ _; rw [HP7.out]; exact hfn2
      have hA8 := (hown7.apart_box w1.heap.size 1 (.slice A7 ps7.length c7) hp6).base (base' := W.heap.size) (by omega)
      have hb07 : Below w1.heap.size w3 w7 := hb06.trans (hb7.mono (by omega))
      have hb08 := hb07.setCell (p := ⟨w1.heap.size, 1, none⟩) (Nat.le_refl _) (.slice A7 ps7.length c7)
      have HA8 := Lib.hid hA8
      have r0 : (w7.setCell ⟨w1.heap.size, 1, none⟩ (.slice A7 ps7.length c7)).cell? ⟨w1.heap.size, 0, none⟩ = some (.string (B nN)) := by
        rw [World.cell?_setCell_other _ _ _ _ (by intro e; injection e with e1 e2; omega)]; exact o0
      have r1 : (w7.setCell ⟨w1.heap.size, 1, none⟩ (.slice A7 ps7.length c7)).cell? ⟨w1.heap.size, 1, none⟩ = some (.slice A7 ps7.length c7) := World.cell?_setCell_same _ _ _ o1
      have rf : (w7.setCell ⟨w1.heap.size, 1, none⟩ (.slice A7 ps7.length c7)).frozen? ⟨w1.heap.size, 1, none⟩ = false := by simpa using of
      clear hfn hfn2 T1 T2 hown7 hA8 hb7 hbW6
      go_wp2_with fail
      go_roundw
      case rel => exact ⟨k + 1, _, ps7, by omega, by go_num, HA8.out, hb08, r0, r1, rf, by show _ = _; rw [HE.out, HP7.out], HFN⟩
      case measure => simp [intOf]; omega
    · have hltI : ¬ (k : Int) < (ms.length : Int) := by omega
      have HEX : eModsK s l ms = (xs.map (·.1), 0) := by rw [hinv.out, List.drop_eq_nil_of_le (by omega)]; rfl
      obtain ⟨hq1, hq2⟩ := hfx.out.asm (by omega)
      have hVl := hVd wo hbw (B nN) _ (xs.map (·.1)) (hown.atts rfl) hq1 hq2
      have HR4 : Hid (r = if sValid s (xs.map (·.1)) != 0 then (([], []), sValid s (xs.map (·.1))) else ((L n, xs.map (·.1)), 0)) := by show _ = _; rw [HR3.out, HEX]; rfl
      generalize sValid s (xs.map (·.1)) = se at *
      clear hinv HEX hfx HR3 hVd hMd hq1 hq2
      go_wp2_with fail
      refine hVl.mono ?_
      rintro e w12 ⟨rfl, hb12⟩
      replace z0 := cell_later hb12 z0
      replace z1 := cell_later hb12 z1
      replace o0 := cell_later hb12 o0
      replace o1 := cell_later hb12 o1
      replace g0 := (hb12.frozen (p := ⟨w.heap.size + 1 + 1, 0, none⟩) hzr).trans g0
      replace g1 := (hb12.frozen (p := ⟨w.heap.size + 1 + 1, 1, none⟩) hzr).trans g1
      have hbw12 := hbw.trans (hb12.mono hbw.size)
      have hA12 := hown.keep hb12
      clear hVl q0 q1 hown
      by_cases hse : se = 0
      · subst hse
        have HF : Hid (r = ((L n, xs.map (·.1)), 0)) := by show _ = _; rw [HR4.out]; rfl
        have hA13 := (hA12.apart_box (w.heap.size + 1 + 1) 0 (.string (B nN)) hzW).apart_box (w.heap.size + 1 + 1) 1 (.slice Ax xs.length cx) hzW
        have HA13 := Lib.hid (hA13.base (base' := w.heap.size) (by omega))
        clear HR4 hA12 hA13
        go_wp2_with fail
        exact bodyPost_ret (v := .tuple #[.agg #[.string (B nN), .slice Ax xs.length cx], .int .i64 0]) (by simp [results, Tryz.results21, go_sem, z0, z1, g0, g1]) rfl ⟨_, _, by rw [HF.out, HN.out], HA13.out, by rw [HF.out], (hbw12.setCell (p := ⟨w.heap.size + 1 + 1, 0, none⟩) hzz _).setCell (p := ⟨w.heap.size + 1 + 1, 1, none⟩) hzz _⟩
      · have hI9 : (se != 0) = true := by simpa using hse
        have HF : Hid (r = (([], []), se)) := by show _ = _; rw [HR4.out, if_pos hI9]
        clear HR4 hA12 hse
        go_wp2_with fail
        exact bodyPost_ret (v := .tuple #[.agg #[.string ⟨#[]⟩, .slice none 0 0], .int .i64 se]) (by simp [results, Tryz.results21, go_sem, z0, z1, g0, g1]) rfl ⟨_, [], by rw [HF.out]; rfl, AttOwn.nil _ _, by rw [HF.out]; rfl, (hbw12.setCell (p := ⟨w.heap.size + 1 + 1, 0, none⟩) hzz _).setCell (p := ⟨w.heap.size + 1 + 1, 1, none⟩) hzz _⟩
end Go.Proofs.YtoopoglkeeoamaaGreatDoor
/- law08: the reference's Check; the small case. -/
namespace Go.Proofs.YtoopoglkeeoamaaGreatDoor
open Go.RowKit Go.Sort
open Idn (L B Bs drop_L take_L size_L)
set_option maxRecDepth 100000 in
theorem r8_Check_any (n : ByteArray) (a : Value) (l : List Idn.Att) (w : World) (hv : AttsV w w.heap.size a l) (hn : n.size ≤ 1000000000) (hs : ASm l) :
    Calls Tryz.prog 15 #[.agg #[.string n, a]] w fun e w' => e = .returned (.int .i64 (eCheck (L n) l)) ∧ Below w.heap.size w w' := by
  have hV := fun W => r5_Valid_any n W hn
  have hC := fun W (hW : Below w.heap.size w W) => r6_Check_any a l W (AttsV.mono (AttsV.keep hv hW) hW.size) hs
  obtain ⟨A, c, rfl, hc⟩ := SlV.shape hv
  have HR : Hid (eCheck (L n) l = if (L n).isEmpty || !validN (L n) then 5 else Idn.aCheck l) := rfl
  have hem : n.toList.isEmpty = (L n).isEmpty := by rw [toList_L]
  generalize eCheck (L n) l = r at *
  generalize Idn.aCheck l = ck at *
  generalize validN (L n) = vn at *
  generalize (L n).isEmpty = em at *
  cases em
  · have hem2 : (!n.toList.isEmpty) = true := by rw [hem]; rfl
    cases vn
    · have HF : Hid (r = 5) := HR.out
      clear HR hC
      go_enter Tryz.func15, Tryz.ntmps15
      go_wp2_with (go_at_call 42; refine (hV _).mono ?_; rintro e w1 ⟨rfl, hb1⟩)
      go_ret
      exact ⟨ret_int (by rw [HF.out]), ((Below.refl _ _).alloc (Nat.le_refl _) _).trans (hb1.mono (by simp))⟩
    · have HF : Hid (r = ck) := HR.out
      clear HR
      go_enter Tryz.func15, Tryz.ntmps15
      go_upto_region 1 with fail
      with_reducible refine gen1 (R := fun W => Code.wp Tryz.prog _ _ _ W) ?_
      intro W hbW hszW hc1 _
      have a0 : W.cell? ⟨w.heap.size, 0, none⟩ = some (.string n) := hc1 0 _ rfl
      have a1 : W.cell? ⟨w.heap.size, 1, none⟩ = some (.slice A l.length c) := hc1 1 _ rfl
      clear hc1 hszW
      go_wp2_with fail
      refine (hV W).mono ?_
      rintro e w1 ⟨rfl, hb1⟩
      replace a1 := cell_later hb1 a1
      have hbw := hbW.trans (hb1.mono hbW.size)
      clear hV
      go_wp2_with fail
      refine (hC w1 hbw).mono ?_
      rintro e w2 ⟨rfl, hb2⟩
      go_wp2
      go_ret
      exact ⟨ret_int (by rw [HF.out]), hbw.trans (hb2.mono hbw.size)⟩
  · have hem2 : (!n.toList.isEmpty) = false := by rw [hem]; rfl
    have HF : Hid (r = 5) := by show _ = _; rw [HR.out]; rfl
    clear HR hC hV
    go_enter Tryz.func15, Tryz.ntmps15
    go_wp2
    go_ret
    exact ⟨ret_int (by rw [HF.out]), (Below.refl _ _).alloc (Nat.le_refl _) _⟩
theorem heapN8 (w : World) (o : Obj) (p : Nat) (hp : w.heap.size = p) : (w.alloc o).heap[p]? = some o := by subst hp; exact heap_alloc_new w o
theorem heapO8 {w : World} {o o' : Obj} {p : Nat} (h : w.heap[p]? = some o') : (w.alloc o).heap[p]? = some o' := by
  rw [Below.heap_alloc _ _ _ (Array.getElem?_eq_some_iff.1 h).1]; exact h
theorem heapB8 {w w' : World} {o' : Obj} {p : Nat} (hb : Below w.heap.size w w') (h : w.heap[p]? = some o') : w'.heap[p]? = some o' := (hb.block p (Array.getElem?_eq_some_iff.1 h).1).trans h
theorem strsAt8 {W : World} {p n c : Nat} {C : Array Value} {t : TypeId} {l : List Bs} (h : W.heap[p]? = some (.cells C t)) (hn : n = l.length) (hl : l.length ≤ c) (hc : ∀ (i : Nat) (x : Bs), l[i]? = some x → C[i]? = some (sv x)) : StrsV W W.heap.size (.slice (some ⟨p, 0, none⟩) n c) l := by
  subst hn
  refine ⟨_, _, rfl, hl, fun _ => ⟨p, 0, rfl, (Array.getElem?_eq_some_iff.1 h).1, fun i x hx => ⟨[sv x], rfl, rfl, fun j u hj => ?_⟩⟩⟩
  match j, hj with
  | 0, hj =>
    simp at hj; subst hj
    rw [Nat.zero_add, Nat.add_zero, Nat.mul_one, cell_of_row _ p i _ _ (0, 0) h]
    exact hc i x hx
theorem attsAt8 {W : World} {p n c : Nat} {C : Array Value} {t : TypeId} {l : List Idn.Att} (h : W.heap[p]? = some (.cells C t)) (hn : n = l.length) (hl : l.length ≤ c) (hc : ∀ (i : Nat) (x : Idn.Att), l[i]? = some x → ∃ v, C[i * 2]? = some (sv x.name) ∧ C[i * 2 + 1]? = some v ∧ StrsV W W.heap.size v x.vals) : AttsV W W.heap.size (.slice (some ⟨p, 0, none⟩) n c) l := by
  subst hn
  refine ⟨_, _, rfl, hl, fun _ => ⟨p, 0, rfl, (Array.getElem?_eq_some_iff.1 h).1, fun i x hx => ?_⟩⟩
  obtain ⟨v, h1, h2, h3⟩ := hc i x hx
  refine ⟨[sv x.name, v], rfl, ⟨v, rfl, h3⟩, fun j u hj => ?_⟩
  match j, hj with
  | 0, hj =>
    simp at hj; subst hj
    rw [Nat.zero_add, Nat.add_zero, cell_of_row _ p _ _ _ (0, 0) h]
    exact h1
  | 1, hj =>
    simp at hj; subst hj
    rw [Nat.zero_add, cell_of_row _ p _ _ _ (0, 0) h]
    exact h2
theorem modsAt8 {W : World} {p n c : Nat} {C : Array Value} {t : TypeId} {l : List Md} (h : W.heap[p]? = some (.cells C t)) (hn : n = l.length) (hl : l.length ≤ c) (hc : ∀ (i : Nat) (x : Md), l[i]? = some x → ∃ v, C[i * 3]? = some (.int .i64 x.op) ∧ C[i * 3 + 1]? = some (sv x.name) ∧ C[i * 3 + 2]? = some v ∧ StrsV W W.heap.size v x.vals) : ModsV W W.heap.size (.slice (some ⟨p, 0, none⟩) n c) l := by
  subst hn
  refine ⟨_, _, rfl, hl, fun _ => ⟨p, 0, rfl, (Array.getElem?_eq_some_iff.1 h).1, fun i x hx => ?_⟩⟩
  obtain ⟨v, h0, h1, h2, h3⟩ := hc i x hx
  refine ⟨[.int .i64 x.op, sv x.name, v], rfl, ⟨v, rfl, h3⟩, fun j u hj => ?_⟩
  match j, hj with
  | 0, hj =>
    simp at hj; subst hj
    rw [Nat.zero_add, Nat.add_zero, cell_of_row _ p _ _ _ (0, 0) h]
    exact h0
  | 1, hj =>
    simp at hj; subst hj
    rw [Nat.zero_add, cell_of_row _ p _ _ _ (0, 0) h]
    exact h1
  | 2, hj =>
    simp at hj; subst hj
    rw [Nat.zero_add, cell_of_row _ p _ _ _ (0, 0) h]
    exact h2
/-- one attribute of one value, of two values; a modification of one value -/
theorem att1At8 {W : World} {p q : Nat} {n x : Bs} {t t' : TypeId} (h1 : W.heap[p]? = some (.cells #[sv x] t)) (h2 : W.heap[q]? = some (.cells #[sv n, .slice (some ⟨p, 0, none⟩) 1 1] t')) : AttsV W W.heap.size (.slice (some ⟨q, 0, none⟩) 1 1) [⟨n, [x]⟩] :=
  attsAt8 h2 rfl (Nat.le_refl _) fun i y hy => by
    match i, hy with
    | 0, hy => injection hy with hy; subst hy; exact ⟨_, rfl, rfl, strsAt8 h1 rfl (Nat.le_refl _) fun j z hz => by match j, hz with | 0, hz => injection hz with hz; subst hz; rfl⟩
theorem att2At8 {W : World} {p q : Nat} {n x y : Bs} {t t' : TypeId} (h1 : W.heap[p]? = some (.cells #[sv x, sv y] t)) (h2 : W.heap[q]? = some (.cells #[sv n, .slice (some ⟨p, 0, none⟩) 2 2] t')) : AttsV W W.heap.size (.slice (some ⟨q, 0, none⟩) 1 1) [⟨n, [x, y]⟩] :=
  attsAt8 h2 rfl (Nat.le_refl _) fun i z hz => by
    match i, hz with
    | 0, hz => injection hz with hz; subst hz; exact ⟨_, rfl, rfl, strsAt8 h1 rfl (Nat.le_refl _) fun j z hz => by
      match j, hz with
      | 0, hz => injection hz with hz; subst hz; rfl
      | 1, hz => injection hz with hz; subst hz; rfl⟩
theorem box_at {X x : World} {p : Nat} {a b : Value} {t : TypeId} (h : Below X.heap.size X x) (e : X.heap[p]? = some (.cells #[a, b] t)) : x.cell? ⟨p, 0, none⟩ = some a ∧ x.cell? ⟨p, 1, none⟩ = some b ∧ x.frozen? ⟨p, 0, none⟩ = false ∧ x.frozen? ⟨p, 1, none⟩ = false := by
  have e2 := heapB8 h e
  exact ⟨cell_of_row _ p 0 _ _ (0, 0) e2, cell_of_row _ p 1 _ _ (0, 0) e2, Lib.frozen_of_heap e2 0, Lib.frozen_of_heap e2 1⟩
theorem heapD8 {w : World} {o' : Obj} {p : Nat} (h : w.heap[p]? = some o') : w.drew.heap[p]? = some o' := h
theorem box_later {x y : World} {p : Nat} {a b : Value} (h : x.cell? ⟨p, 0, none⟩ = some a ∧ x.cell? ⟨p, 1, none⟩ = some b ∧ x.frozen? ⟨p, 0, none⟩ = false ∧ x.frozen? ⟨p, 1, none⟩ = false) (hb : Below x.heap.size x y) : y.cell? ⟨p, 0, none⟩ = some a ∧ y.cell? ⟨p, 1, none⟩ = some b ∧ y.frozen? ⟨p, 0, none⟩ = false ∧ y.frozen? ⟨p, 1, none⟩ = false := by
  have hp : p < x.heap.size := World.block_lt_of_cell? _ _ h.1
  exact ⟨cell_later hb h.1, cell_later hb h.2.1, frozen_later hb h.2.2.1 hp, frozen_later hb h.2.2.2 hp⟩
theorem sch_at {x X : World} {u : Value} {s : Idn.Sch} (h : SchV x x.heap.size u s) (hb : Below x.heap.size x X) : SchV X X.heap.size u s := SchV.mono (SchV.keep h hb) hb.size
theorem atts_at {x X : World} {u : Value} {s : List Idn.Att} (h : AttsV x x.heap.size u s) (hb : Below x.heap.size x X) : AttsV X X.heap.size u s := AttsV.mono (AttsV.keep h hb) hb.size
theorem mod1At8 {W : World} {p q : Nat} {op : Int} {n x : Bs} {t t' : TypeId} (h2 : W.heap[q]? = some (.cells #[.int .i64 op, sv n, .slice (some ⟨p, 0, none⟩) 1 1] t')) (h1 : W.heap[p]? = some (.cells #[sv x] t)) : ModsV W W.heap.size (.slice (some ⟨q, 0, none⟩) 1 1) [⟨op, n, [x]⟩] :=
  modsAt8 h2 rfl (Nat.le_refl _) fun i y hy => by
    match i, hy with
    | 0, hy => injection hy with hy; subst hy; exact ⟨_, rfl, rfl, rfl, strsAt8 h1 rfl (Nat.le_refl _) fun j z hz => by match j, hz with | 0, hz => injection hz with hz; subst hz; rfl⟩
theorem box_set {w x : World} {p base c : Nat} {u a0 a1 : Value} {A : Option Addr} {ps : List (Idn.Att × Value)} {l : List Idn.Att} (hx : Below w.heap.size w x) (ho : AttOwn x base (.slice A ps.length c) ps) (hps : ps.map (·.1) = l) (h3 : ps.length = 3) (hp : w.heap.size ≤ p) (hpb : p < base) (c0 : x.cell? ⟨p, 0, none⟩ = some a0) (c1 : x.cell? ⟨p, 1, none⟩ = some a1) :
    ((x.setCell ⟨p, 0, none⟩ u).setCell ⟨p, 1, none⟩ (.slice A ps.length c)).cell? ⟨p, 1, none⟩ = some (.slice A 3 c) ∧ AttsV ((x.setCell ⟨p, 0, none⟩ u).setCell ⟨p, 1, none⟩ (.slice A ps.length c)) ((x.setCell ⟨p, 0, none⟩ u).setCell ⟨p, 1, none⟩ (.slice A ps.length c)).heap.size (.slice A 3 c) l ∧ Below w.heap.size w ((x.setCell ⟨p, 0, none⟩ u).setCell ⟨p, 1, none⟩ (.slice A ps.length c)) := by
  refine ⟨?_, ?_, (hx.setCell (p := ⟨p, 0, none⟩) hp _).setCell (p := ⟨p, 1, none⟩) hp _⟩
  · rw [← h3]
    refine World.cell?_setCell_same _ _ _ (u := a1) ?_
    rw [World.cell?_setCell_other _ _ _ _ (by intro e; injection e with e1 e2; omega)]
    exact c1
  · have := ((ho.apart_box p 0 u hpb).apart_box p 1 (.slice A ps.length c) hpb).atts hps
    rw [← h3]; exact this
theorem box_new {w x : World} {base c : Nat} {u : Value} {A : Option Addr} {t : TypeId} {ps : List (Idn.Att × Value)} {l : List Idn.Att} (hx : Below w.heap.size w x) (ho : AttOwn x base (.slice A ps.length c) ps) (hps : ps.map (·.1) = l) (h3 : ps.length = 3) :
    (x.alloc (.cells #[u, .slice A ps.length c] t)).cell? ⟨x.heap.size, 1, none⟩ = some (.slice A 3 c) ∧ AttsV (x.alloc (.cells #[u, .slice A ps.length c] t)) (x.alloc (.cells #[u, .slice A ps.length c] t)).heap.size (.slice A 3 c) l ∧ Below w.heap.size w (x.alloc (.cells #[u, .slice A ps.length c] t)) := by
  refine ⟨?_, ?_, hx.alloc hx.size _⟩
  · rw [← h3]
    exact cell_of_row _ _ 1 _ _ (0, 0) (heapN8 _ _ _ rfl)
  · have := (ho.keep ((Below.refl _ _).alloc (Nat.le_refl _) (.cells #[u, .slice A ps.length c] t))).atts hps
    rw [h3] at this ⊢; exact this
theorem asm_nil : ASm [] := ⟨by simp, by simp⟩
theorem asm_sn : ASm E8.snL := by unfold ASm Sm E8.snL; decide
theorem asm_one : ASm E8.oneL := by unfold ASm Sm E8.oneL; decide
theorem asm_two : ASm E8.twoL := by unfold ASm Sm E8.twoL; decide
theorem asm_raw : ASm E8.rawL ∧ ASm5 E8.rawL := by unfold ASm ASm5 Sm E8.rawL; decide
theorem asm_nor : ASm E8.norL ∧ ASm5 E8.norL := by unfold ASm ASm5 Sm E8.norL; decide
set_option maxHeartbeats 4000000 in
set_option maxRecDepth 100000 in
theorem example_any (w : World) (hE : Env w) (hU : EnvU w) : Calls Tryz.prog 13 #[] w fun e w' => e = .returned (.bool true) ∧ Below w.heap.size w w' := by
  have hC0 : ∀ W, Calls Tryz.prog 14 #[.agg #[.string ⟨#[99, 110, 61, 97, 110, 110]⟩, .slice none 0 0]] W fun e w' => e = .returned (.int .i64 0) ∧ Below W.heap.size W w' := fun W => by
    have h := eCheck_any ⟨#[99, 110, 61, 97, 110, 110]⟩ (.slice none 0 0) [] W (SlV.nil _ _ _ _) (by decide) asm_nil
    rw [show eCheck (L ⟨#[99, 110, 61, 97, 110, 110]⟩) [] = 0 from E8.ev_c1] at h
    exact h
  have hC1 : ∀ W, Calls Tryz.prog 14 #[.agg #[.string ⟨#[]⟩, .slice none 0 0]] W fun e w' => e = .returned (.int .i64 5) ∧ Below W.heap.size W w' := fun W => by
    have h := eCheck_any ⟨#[]⟩ (.slice none 0 0) [] W (SlV.nil _ _ _ _) (by decide) asm_nil
    rw [show eCheck (L ⟨#[]⟩) [] = 5 from E8.ev_c2] at h
    exact h
  have hTx : ∀ W v, AttsV W W.heap.size v E8.snL → Calls Tryz.prog 23 #[.agg #[.string ⟨#[99, 110, 61, 97, 110, 110]⟩, v]] W fun e w' => e = .returned (.tuple #[.string (B E8.textB), .int .i64 0]) ∧ Below W.heap.size W w' := fun W v hv => by
    have h := eText_any ⟨#[99, 110, 61, 97, 110, 110]⟩ v E8.snL W hv (by decide) asm_sn
    rw [show eText (L ⟨#[99, 110, 61, 97, 110, 110]⟩) E8.snL = (E8.textB, 0) from E8.ev_text] at h
    exact h
  have hDi : ∀ W v u, AttsV W W.heap.size v E8.oneL → AttsV W W.heap.size u E8.twoL → Calls Tryz.prog 25 #[.agg #[.string ⟨#[99, 110, 61, 97, 110, 110]⟩, v], .agg #[.string ⟨#[99, 110, 61, 97, 110, 110]⟩, u]] W (RetMd W [⟨2, E8.numN, [[49]]⟩, ⟨1, E8.numN, [[51]]⟩]) := fun W v u hv hu => by
    have h := diff_any ⟨#[99, 110, 61, 97, 110, 110]⟩ ⟨#[99, 110, 61, 97, 110, 110]⟩ v u E8.oneL E8.twoL W hv hu (by decide) (by decide) asm_one asm_two
    rw [show eDiff (L ⟨#[99, 110, 61, 97, 110, 110]⟩) E8.oneL (L ⟨#[99, 110, 61, 97, 110, 110]⟩) E8.twoL = _ from E8.ev_diff] at h
    exact h
  have hNm : ∀ W u v, Below w.heap.size w W → SchV W W.heap.size u E8.smallS → AttsV W W.heap.size v E8.rawL → Calls Tryz.prog 17 #[u, .agg #[.string ⟨#[67, 78, 61, 65, 110, 110]⟩, v]] W (RetE W ((E8.annN, E8.norL), 0)) := fun W u v hW hu hv => by
    have h := eNormal_any u E8.smallS ⟨#[67, 78, 61, 65, 110, 110]⟩ v E8.rawL W hu E8.small_ssm (hE.keep hW) (hU.keep hW) hv (by decide) asm_raw.1 asm_raw.2
    rw [show eNormal E8.smallS (L ⟨#[67, 78, 61, 65, 110, 110]⟩) E8.rawL = _ from E8.ev_n1] at h
    exact h
  have hAp : ∀ W u v ms, Below w.heap.size w W → SchV W W.heap.size u E8.smallS → AttsV W W.heap.size v E8.norL → ModsV W W.heap.size ms [⟨3, E8.cnN, [[66, 111, 98]]⟩] → Calls Tryz.prog 21 #[u, .agg #[.string (B E8.annN), v], ms] W (RetE W ((E8.annN, E8.bobL), 0)) := fun W u v ms hW hu hv hm => by
    have h := apply_any u E8.smallS (B E8.annN) v E8.norL ms [⟨3, E8.cnN, [[66, 111, 98]]⟩] W hu E8.small_ssm (hE.keep hW) (hU.keep hW) hv (by rw [Idn.size_B]; decide) asm_nor.1 asm_nor.2 (by decide) hm (by unfold MBig; decide)
    rw [Idn.L_B, E8.ev_apply] at h
    exact h
  have htx : (B E8.textB).toList = [101, 110, 116, 114, 121, 32, 99, 110, 37, 51, 68, 97, 110, 110, 10, 115, 110, 32, 97, 37, 50, 48, 98, 10] := by rw [toList_L, Idn.L_B]; rfl
  have hsm := fun W => small8_any W
  have hAn := fun W A n c => ann_any A n c W
  clear hE hU
  generalize B E8.textB = tx at *
  go_enter Tryz.func13, Tryz.ntmps13
  go_wp2_with fail
  refine (hAn w none 0 0).mono ?_
  rintro e w1 ⟨rfl, hb1⟩
  go_wp2_with fail
  refine (hC0 w1).mono ?_
  rintro e w2 ⟨rfl, hb⟩
  have hb2 := hb1.trans (hb.mono hb1.size)
  clear hb hb1 hC0
  go_wp2_with fail
  refine (hC1 w2).mono ?_
  rintro e w3 ⟨rfl, hb⟩
  have hb3 := hb2.trans (hb.mono hb2.size)
  clear hb hb2 hC1
  go_wp2_with fail
  with_reducible refine genW (R := fun W => Calls Tryz.prog 37 _ W _) (Q := fun W => Below w3.heap.size w3 W ∧ AttsV W W.heap.size (.slice (some ⟨w3.heap.size + 1, 0, none⟩) 1 1) E8.snL) ?_ ?_
  · refine ⟨Below.lay (Below.lay (Below.refl _ _) _) _, att1At8 (t := 9) (t' := 48) (n := E8.snN) (x := [97, 32, 98]) (p := w3.heap.size) ?_ ?_⟩
    · exact heapO8 (heapN8 _ _ _ rfl)
    · exact heapN8 _ _ _ (by simp)
  rintro W ⟨hbW, hat⟩
  refine (hAn W _ _ _).mono ?_
  rintro e w4 ⟨rfl, hb⟩
  have hb4 := hb3.trans ((hbW.trans (hb.mono hbW.size)).mono hb3.size)
  have hT := hTx w4 _ (AttsV.mono (AttsV.keep hat hb) hb.size)
  clear hb hb3 hbW hat hTx
  go_wp2_with fail
  refine hT.mono ?_
  rintro e w5 ⟨rfl, hb⟩
  have hb5 := hb4.trans (hb.mono hb4.size)
  clear hb hb4 hT
  go_wp2_with fail
  with_reducible refine genW (R := fun W => Calls Tryz.prog 37 _ W _) (Q := fun W => Below w5.heap.size w5 W ∧ AttsV W W.heap.size (.slice (some ⟨w5.heap.size + 1, 0, none⟩) 1 1) E8.oneL) ?_ ?_
  · refine ⟨Below.lay (Below.lay (Below.refl _ _) _) _, att2At8 (t := 9) (t' := 48) (n := E8.numN) (x := [49]) (y := [50]) (p := w5.heap.size) ?_ ?_⟩
    · exact heapO8 (heapN8 _ _ _ rfl)
    · exact heapN8 _ _ _ (by simp)
  rintro W ⟨hbW, hat⟩
  refine (hAn W _ _ _).mono ?_
  rintro e w6 ⟨rfl, hb⟩
  have hb6 := hb5.trans ((hbW.trans (hb.mono hbW.size)).mono hb5.size)
  have hat6 := AttsV.mono (AttsV.keep hat hb) hb.size
  clear hb hb5 hbW hat
  go_wp2_with fail
  with_reducible refine genW (R := fun W => Calls Tryz.prog 37 _ W _) (Q := fun W => Below w6.heap.size w6 W ∧ AttsV W W.heap.size (.slice (some ⟨w6.heap.size + 1, 0, none⟩) 1 1) E8.twoL) ?_ ?_
  · refine ⟨Below.lay (Below.lay (Below.refl _ _) _) _, att2At8 (t := 9) (t' := 48) (n := E8.numN) (x := [50]) (y := [51]) (p := w6.heap.size) ?_ ?_⟩
    · exact heapO8 (heapN8 _ _ _ rfl)
    · exact heapN8 _ _ _ (by simp)
  rintro W ⟨hbW, hat⟩
  refine (hAn W _ _ _).mono ?_
  rintro e w7 ⟨rfl, hb⟩
  have hb67 := hbW.trans (hb.mono hbW.size)
  have hb7 := hb6.trans (hb67.mono hb6.size)
  have hD := hDi w7 _ _ (AttsV.mono (AttsV.keep hat6 hb67) hb67.size) (AttsV.mono (AttsV.keep hat hb) hb.size)
  clear hb hb6 hbW hat hat6 hb67 hDi
  go_wp2_with fail
  refine hD.mono ?_
  rintro e w8 ⟨v8, ps8, rfl, hown8, hps8, hb⟩
  have hb8 := hb7.trans (hb.mono hb7.size)
  have hm8 := hown8.mods hps8
  obtain ⟨A8, c8, hv8⟩ := own_shape hown8.1
  subst hv8
  clear hb hb7 hD hown8
  go_upto_region 6 with fail
  with_reducible refine genW (R := fun W => Code.wp Tryz.prog _ _ _ W) (Q := fun W => Below w8.heap.size w8 W ∧ ModsV W W.heap.size (.slice (some ⟨w8.heap.size + 1 + 1, 0, none⟩) 2 2) [⟨2, E8.numN, [[49]]⟩, ⟨1, E8.numN, [[51]]⟩]) ?_ ?_
  · refine ⟨Below.lay (Below.lay (Below.lay (Below.refl _ _) _) _) _, modsAt8 (l := [⟨2, E8.numN, [[49]]⟩, ⟨1, E8.numN, [[51]]⟩]) (C := #[.int .i64 2, sv E8.numN, .slice (some ⟨w8.heap.size, 0, none⟩) 1 1, .int .i64 1, sv E8.numN, .slice (some ⟨w8.heap.size + 1, 0, none⟩) 1 1]) (t := 59) ?_ rfl (Nat.le_refl _) fun i x hx => ?_⟩
    · exact heapN8 _ _ _ (by simp)
    · match i, hx with
      | 0, hx => injection hx with hx; subst hx; exact ⟨_, rfl, rfl, rfl, strsAt8 (C := #[sv [49]]) (t := 9) (heapO8 (heapO8 (heapN8 _ _ _ rfl))) rfl (Nat.le_refl _) fun j z hz => by match j, hz with | 0, hz => injection hz with hz; subst hz; rfl⟩
      | 1, hx => injection hx with hx; subst hx; exact ⟨_, rfl, rfl, rfl, strsAt8 (C := #[sv [51]]) (t := 9) (heapO8 (heapN8 _ _ _ (by simp))) rfl (Nat.le_refl _) fun j z hz => by match j, hz with | 0, hz => injection hz with hz; subst hz; rfl⟩
  rintro W9 ⟨hb9, hm9⟩
  have hSM := sameMods_any _ _ _ _ true ⟨fun _ => rfl, fun _ => rfl⟩ W9 (ModsV.mono (ModsV.keep hm8 hb9) hb9.size) hm9 (by decide) (by decide) (by decide) (by decide)
  have hb89 := hb8.trans (hb9.mono hb8.size)
  have hl8 : ps8.length = 2 := by rw [← List.length_map (f := (·.1)), hps8]; rfl
  rw [hl8] at hSM
  clear hb8 hb9 hm8 hm9 hps8
  go_wp2_with fail
  refine hSM.mono ?_
  rintro e w10 ⟨rfl, hb⟩
  have hb10 := hb89.trans (hb.mono hb89.size)
  clear hb hb89 hSM hl8 htx
  go_wp2_with fail
  refine (hsm w10).mono ?_
  rintro e w11 ⟨u11, rfl, hS11, hb⟩
  have hb11 := hb10.trans (hb.mono hb10.size)
  obtain ⟨ua, ub, rfl, hT11, hC11⟩ := id hS11
  obtain ⟨A1, c1, rfl, _⟩ := SlV.shape hT11
  obtain ⟨A2, c2, rfl, _⟩ := SlV.shape hC11
  clear hb hb10 hT11 hC11
  go_wp2_with fail
  with_reducible refine genW (R := fun W => Calls Tryz.prog 17 _ W _) (Q := fun W => Below w11.heap.size w11 W ∧ AttsV W W.heap.size (.slice (some ⟨w11.heap.size + 1 + 1 + 1, 0, none⟩) 3 3) E8.rawL) ?_ ?_
  · refine ⟨Below.lay (Below.lay (Below.lay (Below.lay (Below.refl _ _) _) _) _) _, attsAt8 (l := E8.rawL) (C := #[sv E8.ClassN, .slice (some ⟨w11.heap.size, 0, none⟩) 1 1, sv E8.cnN, .slice (some ⟨w11.heap.size + 1, 0, none⟩) 1 1, sv E8.numN, .slice (some ⟨w11.heap.size + 1 + 1, 0, none⟩) 1 1]) (t := 48) ?_ rfl (Nat.le_refl _) fun i x hx => ?_⟩
    · exact heapN8 _ _ _ (by simp)
    · match i, hx with
      | 0, hx => injection hx with hx; subst hx; exact ⟨_, rfl, rfl, strsAt8 (C := #[sv E8.personN]) (t := 9) (heapO8 (heapO8 (heapO8 (heapN8 _ _ _ rfl)))) rfl (Nat.le_refl _) fun j z hz => by match j, hz with | 0, hz => injection hz with hz; subst hz; rfl⟩
      | 1, hx => injection hx with hx; subst hx; exact ⟨_, rfl, rfl, strsAt8 (C := #[sv [65, 110, 110]]) (t := 9) (heapO8 (heapO8 (heapN8 _ _ _ (by simp)))) rfl (Nat.le_refl _) fun j z hz => by match j, hz with | 0, hz => injection hz with hz; subst hz; rfl⟩
      | 2, hx => injection hx with hx; subst hx; exact ⟨_, rfl, rfl, strsAt8 (C := #[sv [55]]) (t := 9) (heapO8 (heapN8 _ _ _ (by simp))) rfl (Nat.le_refl _) fun j z hz => by match j, hz with | 0, hz => injection hz with hz; subst hz; rfl⟩
  rintro W12 ⟨hb12, hat⟩
  have hbw12 := hb11.trans (hb12.mono hb11.size)
  have hN := hNm W12 _ _ hbw12 (SchV.mono (SchV.keep hS11 hb12) hb12.size) hat
  clear hb12 hb11 hat hNm hS11
  refine hN.mono ?_
  rintro e w13 ⟨v13, ps13, rfl, hown13, hps13, hb⟩
  have hb13 := hbw12.trans (hb.mono hbw12.size)
  obtain ⟨A13, c13, hv13⟩ := own_shape hown13.1
  subst hv13
  have hat13 := hown13.atts hps13
  have hl13 : ps13.length = 3 := by rw [← List.length_map (f := (·.1)), hps13]; rfl
  rw [hl13] at hat13
  clear hb hbw12 hN hown13 hps13
  go_upto_region 9 with fail
  with_reducible refine gen1 (R := fun W => Code.wp Tryz.prog _ _ _ W) ?_
  intro W14 hb14 hsz14 hc14 _
  have p0 : W14.cell? ⟨w13.heap.size, 0, none⟩ = some (.string (B E8.annN)) := hc14 0 _ rfl
  have p1 : W14.cell? ⟨w13.heap.size, 1, none⟩ = some (.slice A13 3 c13) := hc14 1 _ rfl
  have hat14 := AttsV.mono (AttsV.keep hat13 hb14) hb14.size
  have hbw14 := hb13.trans (hb14.mono hb13.size)
  have hta : (B E8.annN).toList = [99, 110, 61, 97, 110, 110] := by rw [toList_L, Idn.L_B]; rfl
  clear hc14 hb13 hb14 hat13 hsz14 hl13
  generalize B E8.annN = an at *
  go_upto_region 11 with fail
  go_cut [2, 6] (fun t2 t6 wx => t2 = .int .i64 0 ∧ ∃ b A c, t6 = .pointer (some ⟨b, 0, none⟩) ∧ wx.cell? ⟨b, 1, none⟩ = some (.slice A 3 c) ∧ AttsV wx wx.heap.size (.slice A 3 c) E8.bobL ∧ Below w.heap.size w wx)
  case first =>
    have hS : ∀ W', Below W14.heap.size W14 W' → W'.cell? ⟨w13.heap.size, 0, none⟩ = some (.string an) ∧ W'.cell? ⟨w13.heap.size, 1, none⟩ = some (.slice A13 3 c13) ∧ Below W14.heap.size W14 W' := fun W' hW => ⟨cell_later hW p0, cell_later hW p1, hW⟩
    clear p0 p1
    go_region_held3 (fun W' => W'.cell? ⟨w13.heap.size, 0, none⟩ = some (.string an) ∧ W'.cell? ⟨w13.heap.size, 1, none⟩ = some (.slice A13 3 c13) ∧ Below W14.heap.size W14 W')
      (first | (refine hS _ ?_; repeat (first | with_reducible exact Below.refl _ _ | with_reducible apply Below.drew | with_reducible refine Below.lay ?_ _ | with_reducible refine Below.on ?_ hbs | with_reducible refine Below.on ?_ hba | with_reducible refine Below.setCell ?_ (by first | (simp; done) | ((have h1 := hba.size); (have h2 := hbs.size); simp at h1 h2 ⊢; omega)) _)))
      (first
        | (go_at_call 38
           refine (hsm _).mono ?_
           rintro e x1 ⟨u, rfl, hS1, hbs⟩
           (first | have bx := box_at (a := .string ⟨#[]⟩) (b := .slice none 0 0) (t := 24) hbs (by (repeat (first | exact heapN8 _ _ _ rfl | with_reducible apply heapD8 | with_reducible apply heapO8)); done) | skip)
           (try simp at bx))
        | (go_at_call 21
           refine (hAp _ _ _ _ ?_ ?_ ?_ ?_).mono ?_
           · refine hbw14.trans (Below.mono ?_ hbw14.size)
             repeat (first | with_reducible exact Below.refl _ _ | with_reducible apply Below.drew | with_reducible refine Below.lay ?_ _ | with_reducible refine Below.on ?_ hbs)
           · refine sch_at hS1 ?_
             repeat (first | with_reducible exact Below.refl _ _ | with_reducible refine Below.lay ?_ _)
           · refine atts_at hat14 ?_
             repeat (first | with_reducible exact Below.refl _ _ | with_reducible apply Below.drew | with_reducible refine Below.lay ?_ _ | with_reducible refine Below.on ?_ hbs)
           · exact mod1At8 (op := 3) (n := E8.cnN) (x := [66, 111, 98]) (t := 9) (t' := 59) (by repeat (first | exact heapN8 _ _ _ (by first | rfl | simp) | with_reducible apply heapD8 | with_reducible apply heapO8 | with_reducible apply heapB8 hbs)) (by repeat (first | exact heapN8 _ _ _ (by first | rfl | simp) | with_reducible apply heapD8 | with_reducible apply heapO8 | with_reducible apply heapB8 hbs))
           rintro e x2 ⟨va, psa, rfl, howna, hpsa, hba⟩
           (first
             | have by9 := box_later bx (Below.on (by (repeat (first | with_reducible exact Below.refl _ _ | with_reducible apply Below.drew | with_reducible refine Below.lay ?_ _)); done) hba)
             | have by9 := box_at (a := .string ⟨#[]⟩) (b := .slice none 0 0) (t := 24) hba (by (repeat (first | exact heapN8 _ _ _ rfl | with_reducible apply heapD8 | with_reducible apply heapO8)); done)
             | skip)
           (try simp at by9)
           (try obtain ⟨by1, by2, by3, by4⟩ := by9)
           obtain ⟨Ab, cb, hvb⟩ := own_shape howna.1
           subst hvb
           skip))
    all_goals
      have hp9 : psa.length = 3 := by rw [← List.length_map (f := (·.1)), hpsa]; rfl
      have hx2 : Below w.heap.size w x2 := by
        refine hbw14.trans (Below.mono ?_ hbw14.size)
        repeat (first | with_reducible exact Below.refl _ _ | with_reducible apply Below.drew | with_reducible refine Below.lay ?_ _ | with_reducible refine Below.on ?_ hbs | with_reducible refine Below.on ?_ hba)
      go_wp2_with fail
      go_meet
      first
        | exact ⟨rfl, _, Ab, cb, rfl, box_new hx2 howna hpsa hp9⟩
        | exact ⟨rfl, _, Ab, cb, rfl, box_set hx2 howna hpsa hp9 (by (have h1 := hbw14.size); (have h2 := hbs.size); (try simp at h2); omega) (by first | (simp; done) | ((have h2 := hbs.size); (try simp at h2 ⊢); omega)) by1 by2⟩
  case rest =>
    obtain ⟨rfl, b, A, c, rfl, hc, hat, hb⟩ := hcut
    rename World => wx
    obtain ⟨b', off, v, hA, hb', d0, d1, hvs⟩ := AttsV.cell hat (k := 1) (by decide)
    subst hA
    obtain ⟨Av, cv, rfl, _⟩ := hvs.shape
    have d1' : wx.cell? ⟨b', off + 2 + 1, none⟩ = some (.slice Av E8.bobL[1].vals.length cv) := d1
    go_wp2_with fail
    with_reducible refine genW (R := fun W => Calls Tryz.prog 39 _ W _) (Q := fun W => Below wx.heap.size wx W ∧ StrsV W W.heap.size (.slice (some ⟨wx.heap.size, 0, none⟩) 1 1) [[98, 111, 98]]) ?_ ?_
    · refine ⟨Below.lay (Below.refl _ _) _, strsAt8 (C := #[sv [98, 111, 98]]) (t := 9) (heapN8 _ _ _ rfl) rfl (Nat.le_refl _) fun j z hz => by match j, hz with | 0, hz => injection hz with hz; subst hz; rfl⟩
    rintro W ⟨hbW, hs⟩
    refine (sameS_any _ _ [[98, 111, 98]] [[98, 111, 98]] true ⟨fun _ => rfl, fun _ => rfl⟩ W (SlV.mono (SlV.keep hvs hbW) hbW.size) hs (by decide) (by decide)).mono ?_
    rintro e wz ⟨rfl, hbz⟩
    go_wp2_with fail
    go_ret
    exact ⟨rfl, hb.trans ((hbW.trans (hbz.mono hbW.size)).mono hb.size)⟩
end Go.Proofs.YtoopoglkeeoamaaGreatDoor
/- identityref08: Text. -/
namespace Go.Proofs.YtoopoglkeeoamaaGreatDoor
open Go.RowKit Go.Sort
open Idn (L B Bs drop_L take_L size_L)
theorem text_sm {n : Bs} {l : List Idn.Att} (h : eCheck n l = 0) : (∀ a ∈ Idn.aSorted l, a.name.length ≤ 64 ∧ a.vals.length ≤ 1000 ∧ ∀ x ∈ a.vals, x.length ≤ 256) ∧ (Idn.aSorted l).length ≤ 32 ∧ Idn.rSorted l = Idn.aSorted l := by
  have hac := eCheck_zero h
  obtain ⟨hl32, hv16⟩ := aCheck_zero hac
  refine ⟨fun a ha => ?_, ?_, Idn.rSorted_eq fun a ha => (hv16 a ha).1⟩
  · obtain ⟨b, hb, rfl⟩ := Idn.aSorted_from ha
    have h1 := Idn.grp_le 16 l [] 0 (by simp) (fun a ha => (hv16 a ha).2) b hb
    have h2 := Idn.grp_all (p := fun x => x.length ≤ 256) l [] (by simp) (fun a ha x hx => clean_len (aCheck_clean hac a ha x hx)) b hb
    have h3 := Lib.compact_length_le (Idn.srt b.vals)
    have h4 : (Idn.srt b.vals).length = b.vals.length := by simp [Idn.srt]
    refine ⟨?_, ?_, fun x hx => h2 x (Idn.srt_mem (compact_mem hx))⟩
    · have hn : b.name ∈ (Idn.grp [] l).map (·.name) := List.mem_map.2 ⟨b, hb, rfl⟩
      rw [Idn.grp_names] at hn
      rcases hn with hn | hn
      · simp at hn
      · obtain ⟨a, ha, e⟩ := List.mem_map.1 hn
        show b.name.length ≤ _
        rw [← e, Idn.length_lower]
        exact name_len ((Idn.aCheck_all hac).2.2 a ha).1
    · show (Lib.compact (Idn.srt b.vals)).length ≤ _
      have : l.length * 16 ≤ 32 * 16 := Nat.mul_le_mul_right _ hl32
      omega
  · have h1 := aSorted_len l
    have h2 := grp_len l []
    simp at h2
    omega
set_option maxHeartbeats 4000000 in
set_option maxRecDepth 100000 in
theorem r8_Text_any (n : ByteArray) (a : Value) (l : List Idn.Att) (w : World) (hv : AttsV w w.heap.size a l) (hn : n.size ≤ 1000000000) (hs : ASm l) :
    Calls Tryz.prog 24 #[.agg #[.string n, a]] w fun e w' => e = .returned (.tuple #[.string (B (eText (L n) l).1), .int .i64 (eText (L n) l).2]) ∧ Below w.heap.size w w' := by
  have hA := fun W (hW : Below w.heap.size w W) => AttsV.mono (AttsV.keep hv hW) hW.size
  have hC := fun W (hW : Below w.heap.size w W) => r8_Check_any n a l W (hA W hW) hn hs
  have hSo := fun h7 W (hW : Below w.heap.size w W) => r_Sorted_any a l W (hA W hW) h7
  have hEs := fun W => r2_escape_any n W hn
  have HR := Lib.hid (eText_unf (L n) l)
  have hck := fun h => (⟨eCheck_zero (n := L n) (l := l) h, text_sm h⟩ : _ ∧ _)
  obtain ⟨A, c, rfl, hc⟩ := SlV.shape hv
  generalize eText (L n) l = r at *
  generalize eCheck (L n) l = k0 at *
  clear hA hv
  go_enter Tryz.func24, Tryz.ntmps24
  go_upto_region 1 with fail
  with_reducible refine gen1 (R := fun W => Code.wp Tryz.prog _ _ _ W) ?_
  intro W hbW hszW hc1 _
  have a0 : W.cell? ⟨w.heap.size, 0, none⟩ = some (.string n) := hc1 0 _ rfl
  have a1 : W.cell? ⟨w.heap.size, 1, none⟩ = some (.slice A l.length c) := hc1 1 _ rfl
  clear hc1
  go_wp2_with fail
  refine (hC W hbW).mono ?_
  rintro e w1 ⟨rfl, hb1⟩
  have hbw1 := hbW.trans (hb1.mono hbW.size)
  by_cases hk0 : k0 = 0
  case neg =>
    have hI : (k0 != 0) = true := by simpa using hk0
    have HF : Hid (r = ([], k0)) := by show _ = _; rw [HR.out, if_pos hI]
    clear HR hC hSo hEs hck hk0
    go_wp2_with fail
    go_ret2
    exact ⟨by rw [HF.out]; rfl, hbw1⟩
  subst hk0
  have HR2 : Hid (r = (eLine entryN (L n) ++ eBody (Idn.aSorted l), 0)) := by show _ = _; rw [HR.out]; rfl
  obtain ⟨hac, hsz, hsl, hrs⟩ := hck rfl
  obtain ⟨hl32, hv16⟩ := aCheck_zero hac
  have h7 : Idn.ASm7 l := ⟨by omega, fun a ha => ⟨(hs.2 a ha).1, by have := (hv16 a ha).2; omega, (hs.2 a ha).2.2⟩⟩
  have hSo2 := hSo h7
  rw [hrs] at hSo2
  replace a0 := cell_later hb1 a0
  replace a1 := cell_later hb1 a1
  have HSZ := Lib.hid hsz
  clear HR hC hck hSo h7 hl32 hv16 hb1 hszW hs hac hrs hsz
  generalize Idn.aSorted l = sl at *
  have el := esc_len (L n)
  have hnL : (L n).length ≤ 1000000000 := by rw [← size_L]; exact hn
  have add1 := fun W => run_add (P := Tryz.prog) (a := [101, 110, 116, 114, 121, 32]) (b := esc (L n)) (s := ⟨#[101, 110, 116, 114, 121, 32]⟩) (t := B (esc (L n))) rfl rfl (by simp; omega) W
  have add2 := fun W => run_add (P := Tryz.prog) (a := [101, 110, 116, 114, 121, 32] ++ esc (L n)) (b := [10]) (s := B ([101, 110, 116, 114, 121, 32] ++ esc (L n))) (t := ⟨#[10]⟩) rfl rfl (by simp; omega) W
  have hline : [101, 110, 116, 114, 121, 32] ++ esc (L n) ++ [10] = eLine entryN (L n) := by unfold eLine entryN; simp
  rw [hline] at add2
  have hll := eLine_len entryN (L n) (by decide) hnL
  clear hline
  generalize [101, 110, 116, 114, 121, 32] ++ esc (L n) = xe at *
  generalize eLine entryN (L n) = l0 at *
  generalize esc (L n) = en at *
  go_wp2_with fail
  refine (hEs w1).mono ?_
  rintro e w3 ⟨rfl, hb3⟩
  replace a1 := cell_later hb3 a1
  have hbw3 := hbw1.trans (hb3.mono hbw1.size)
  clear hEs hb3
  go_wp2_with fail
  refine (hSo2 w3 hbw3).mono ?_
  rintro e w5 ⟨v5, ps5, rfl, hrow5, hps5, hb5⟩
  have hats := hrow5.atts hps5
  obtain ⟨A5, c5, rfl, _⟩ := SlV.shape hats
  have hbw5 := hbw3.trans (hb5.mono hbw3.size)
  have hbd : ∀ k, (eBody (sl.take k)).length ≤ 32000000 := fun k => by
    have h1 := eBody_len (sl.take k) fun a ha => HSZ.out a (List.mem_of_mem_take ha)
    have h2 : (sl.take k).length ≤ 32 := by rw [List.length_take]; omega
    have h3 : (sl.take k).length * 1000000 ≤ 32 * 1000000 := Nat.mul_le_mul_right _ h2
    omega
  clear hSo2 hps5 hrow5 a0 a1 add1 add2 el hb5 hbw3 hbw1
  go_wp2_with fail
  go_loopw [5, 7] (fun sx i wr => ∃ k : Nat, k ≤ sl.length ∧ i = .int .i64 k ∧ sx = .string (B (l0 ++ eBody (sl.take k))) ∧ Below w5.heap.size w5 wr) (fun _ i _ => sl.length - (intOf i).toNat)
  case atStart => exact ⟨0, Nat.zero_le _, rfl, by simp [eBody], Below.refl _ _⟩
  case round =>
    obtain ⟨k, hk, rfl, rfl, hb⟩ := hrel
    by_cases hlt : k < sl.length
    · have hltI : (k : Int) < (sl.length : Int) := by omega
      obtain ⟨y1, y2, y3⟩ := HSZ.out sl[k] (List.getElem_mem hlt)
      have hstep := eBody_take sl k hlt
      have hbk := hbd k
      have hpre : (l0 ++ eBody (sl.take k)).length ≤ 6000000000 := by rw [List.length_append]; omega
      have HPR := Lib.hid (show l0 ++ eBody (sl.take (k + 1)) = (l0 ++ eBody (sl.take k)) ++ eVs sl[k].name sl[k].vals by rw [hstep, List.append_assoc])
      clear hstep hbk
      generalize l0 ++ eBody (sl.take k) = pre at *
      go_wp2_with fail
      go_loopw [5, 8] (fun sx i wi => ∃ j : Nat, j ≤ sl[k].vals.length ∧ i = .int .i64 j ∧ sx = .string (B (pre ++ eVs sl[k].name (sl[k].vals.take j))) ∧ Below w5.heap.size w5 wi) (fun _ i _ => sl[k].vals.length - (intOf i).toNat)
      case atStart => exact ⟨0, Nat.zero_le _, rfl, by simp [eVs], hb⟩
      case round =>
        obtain ⟨j, hj, rfl, rfl, hbi⟩ := hrel
        obtain ⟨wi, hwi⟩ : ∃ wi : World, wi = wr := ⟨_, rfl⟩
        subst hwi
        obtain ⟨bA, oA, vA, hA5, hbA, d0, d1, hvA⟩ := AttsV.cell (AttsV.keep hats hbi) hlt
        subst hA5
        obtain ⟨Av, cv, rfl, _⟩ := SlV.shape hvA
        by_cases hjl : j < sl[k].vals.length
        · have hjI : (j : Int) < (sl[k].vals.length : Int) := by omega
          obtain ⟨bV, oV, hAv, hbV, e0⟩ := StrsV.cell hvA hjl
          subst hAv
          have hxl := y3 sl[k].vals[j] (List.getElem_mem hjl)
          have hel := esc_len sl[k].vals[j]
          have hEs2 := fun W => r2_escape_any (B sl[k].vals[j]) W (by rw [Idn.size_B]; omega)
          simp only [Idn.L_B] at hEs2
          have hvs := eVs_take sl[k].name sl[k].vals j hjl
          have hvl : (eVs sl[k].name (sl[k].vals.take j)).length ≤ 1000000 := by
            have h1 := eVs_len sl[k].name (sl[k].vals.take j) y1 (fun v hv => y3 v (List.mem_of_mem_take hv))
            have h2 : (sl[k].vals.take j).length ≤ 1000 := by rw [List.length_take]; omega
            omega
          have hpl2 : (pre ++ eVs sl[k].name (sl[k].vals.take j)).length ≤ 7000000000 := by rw [List.length_append]; omega
          have HVS := Lib.hid (show pre ++ eVs sl[k].name (sl[k].vals.take (j + 1)) = (((pre ++ eVs sl[k].name (sl[k].vals.take j)) ++ sl[k].name ++ [32]) ++ esc sl[k].vals[j]) ++ [10] by rw [hvs]; unfold eLine; simp)
          have q1 := cq (W := wi) fun W _ => hEs2 W
          have g0 := cell_regrown d0
          have g1 := cell_regrown d1
          have g2 := cell_regrown e0
          have hyn : sl[k].name.length ≤ 64 := y1
          clear hvs hvl hEs2 hbd hats hvA
          generalize pre ++ eVs sl[k].name (sl[k].vals.take j) = p1 at *
          generalize B sl[k].vals[j] = bq at *
          generalize esc sl[k].vals[j] = ev at *
          generalize hqn : sl[k].name = qn at *
          have HQN := Lib.hid hqn
          clear hqn
          have a1 := fun W => run_add (P := Tryz.prog) (a := p1) (b := qn) rfl rfl (by omega) W
          have a2 := fun W => run_add (P := Tryz.prog) (a := p1 ++ qn) (b := [32]) (t := ⟨#[32]⟩) rfl rfl (by simp; omega) W
          have a3 := fun W => run_add (P := Tryz.prog) (a := p1 ++ qn ++ [32]) (b := ev) rfl rfl (by simp; omega) W
          have a4 := fun W => run_add (P := Tryz.prog) (a := p1 ++ qn ++ [32] ++ ev) (b := [10]) (t := ⟨#[10]⟩) rfl rfl (by simp; omega) W
          generalize p1 ++ qn ++ [32] ++ ev ++ [10] = m4 at *
          generalize p1 ++ qn ++ [32] ++ ev = m3 at *
          generalize p1 ++ qn ++ [32] = m2 at *
          generalize p1 ++ qn = m1 at *
          go_wp2
          refine wp_region_quiet_below (by kernel_rfl) (by kernel_rfl) ?_
          repeat (first | go_big_quiet_step ((go_at_call 65; exact q1 _ _)) | quiet_step ((go_at_call 65; exact q1 _ _)))
          refine wpQuiet_nil ?_
          intro _ hw'
          obtain ⟨⟨dq, osq⟩, hw''⟩ := hw'
          subst hw''
          have hb4 := below_regrown wi dq osq
          generalize grow (redrawn wi dq) osq = W4 at hb4 ⊢
          clear q1 g0 g1 g2 a1 a2 a3 a4 d0 d1 e0
          go_wp2_with fail
          go_roundw
          case rel => exact ⟨j + 1, by omega, by go_num, by rw [HVS.out], hbi.trans (hb4.mono hbi.size)⟩
          case measure => simp [intOf]; omega
        · have hjI : ¬ (j : Int) < (sl[k].vals.length : Int) := by omega
          have HVS := Lib.hid (show pre ++ eVs sl[k].name (sl[k].vals.take j) = l0 ++ eBody (sl.take (k + 1)) by rw [HPR.out, List.take_of_length_le (by omega)])
          clear hbd hats hvA
          generalize pre ++ eVs sl[k].name (sl[k].vals.take j) = p1 at *
          go_wp2_with fail
          go_roundw
          case rel => exact ⟨k + 1, by omega, by go_num, by rw [HVS.out], hbi⟩
          case measure => simp [intOf]; omega
    · have hltI : ¬ (k : Int) < (sl.length : Int) := by omega
      have HF : Hid (r = (l0 ++ eBody (sl.take k), 0)) := by show _ = _; rw [HR2.out, List.take_of_length_le (by omega)]
      clear HR2
      generalize l0 ++ eBody (sl.take k) = fin at *
      go_wp2_with fail
      go_ret2
      exact ⟨by rw [HF.out] <;> rfl, hbw5.trans (hb.mono hbw5.size)⟩
end Go.Proofs.YtoopoglkeeoamaaGreatDoor
/- identityref03.Same, identityref06: Same, Equal; identityref08: SameAttrs, Same, Equal. -/
namespace Go.Proofs.YtoopoglkeeoamaaGreatDoor
open Go.RowKit Go.Sort
open Idn (L B Bs drop_L take_L size_L)
set_option maxHeartbeats 2000000 in
set_option maxRecDepth 100000 in
theorem sameA_any (v u : Value) (a b : List Idn.Att) (r : Bool) (hr : r = true ↔ a = b) (w : World) (hv : AttsV w w.heap.size v a) (hu : AttsV w w.heap.size u b) (ha : a.length ≤ 1000000000) (hb : b.length ≤ 1000000000) (hav : ∀ m ∈ a, m.vals.length ≤ 1000000000) (hbv : ∀ m ∈ b, m.vals.length ≤ 1000000000) :
    Calls Tryz.prog 34 #[v, u] w fun e w' => e = .returned (.bool r) ∧ Below w.heap.size w w' := by
  obtain ⟨A, c, rfl, _⟩ := SlV.shape hv
  obtain ⟨A2, c2, rfl, _⟩ := SlV.shape hu
  go_enter Tryz.func34, Tryz.ntmps34
  by_cases h0 : a.length = b.length
  · have h0I : ((a.length : Int) != (b.length : Int)) = false := by rw [h0]; simp
    have H0 := Lib.hid h0
    have HRR := Lib.hid hr
    clear h0 hr
    go_wp2_with fail
    go_loopw [5] (fun i wr => ∃ (k : Nat), k ≤ a.length ∧ i = .int .i64 k ∧ Below w.heap.size w wr ∧ Hid (a.take k = b.take k)) (fun i _ => a.length - (intOf i).toNat)
    case atStart => exact ⟨0, Nat.zero_le _, rfl, Below.refl _ _, rfl⟩
    case round =>
      obtain ⟨k, hk, rfl, hbw, hinv⟩ := hrel
      obtain ⟨wo, hwo⟩ : ∃ wo : World, wo = wr := ⟨_, rfl⟩
      subst hwo
      by_cases hlt : k < a.length
      · have hlt' : k < b.length := by have := H0.out; omega
        obtain ⟨b1, o1, v1, hA, hb1, d1, d2, ds⟩ := AttsV.cell (hv.keep hbw) hlt
        obtain ⟨b2, o2, v2, hA2, hb2, e1, e2, es⟩ := AttsV.cell (hu.keep hbw) hlt'
        subst hA hA2
        obtain ⟨Av, cv, rfl, _⟩ := ds.shape
        obtain ⟨Aw, cw, rfl, _⟩ := es.shape
        have hltI : (k : Int) < (a.length : Int) := by omega
        have hltJ : (k : Int) < (b.length : Int) := by omega
        have ht := B_beq a[k].name b[k].name
        have q0 := fun (rr : Bool) (hrr : rr = true ↔ a[k].vals = b[k].vals) (W : World) (hW : Below wo.heap.size wo W) => sameS_any _ _ a[k].vals b[k].vals rr hrr W (SlV.mono (SlV.keep ds (hW.mono hbw.size)) (hbw.trans (hW.mono hbw.size)).size) (SlV.mono (SlV.keep es (hW.mono hbw.size)) (hbw.trans (hW.mono hbw.size)).size) (hav _ (List.getElem_mem _)) (hbv _ (List.getElem_mem _))
        have k1 := cell_regrown d1
        have k2 := cell_regrown d2
        have l1 := cell_regrown e1
        have l2 := cell_regrown e2
        have hne := get_ne hlt hlt'
        have hte := take_ext hinv.out hlt hlt'
        clear hinv ds es d1 d2 e1 e2
        by_cases hn : a[k].name = b[k].name
        case neg =>
          rw [decide_eq_false hn] at ht
          have HF := Lib.hid (no_true HRR.out (hne fun e => hn (by rw [e])))
          clear hn q0 hne hte
          go_wp2
          refine wp_region_quiet_below (by kernel_rfl) (by kernel_rfl) ?_
          repeat (first | go_big_quiet_step ((fail)) | quiet_step ((fail)))
          refine wpQuiet_nil ?_
          intro _ hw'
          obtain ⟨⟨dq, osq⟩, hw''⟩ := hw'
          subst hw''
          have hb4 := below_regrown wo dq osq
          generalize grow (redrawn wo dq) osq = W4 at hb4 ⊢
          go_wp2_with fail
          go_ret
          exact ⟨ret_bool HF.out.symm, hbw.trans (hb4.mono hbw.size)⟩
        rw [decide_eq_true hn] at ht
        by_cases hs : a[k].vals = b[k].vals
        case neg =>
          have q1 := cq (W := wo) (q0 false ⟨fun h => (by cases h), fun h => absurd h hs⟩)
          have HF := Lib.hid (no_true HRR.out (hne fun e => hs (by rw [e])))
          clear hn q0 hne hte hs
          go_wp2
          refine wp_region_quiet_below (by kernel_rfl) (by kernel_rfl) ?_
          repeat (first | go_big_quiet_step ((go_at_call 39; exact q1 _ _)) | quiet_step ((go_at_call 39; exact q1 _ _)))
          refine wpQuiet_nil ?_
          intro _ hw'
          obtain ⟨⟨dq, osq⟩, hw''⟩ := hw'
          subst hw''
          have hb4 := below_regrown wo dq osq
          generalize grow (redrawn wo dq) osq = W4 at hb4 ⊢
          clear q1
          go_wp2_with fail
          go_ret
          exact ⟨ret_bool HF.out.symm, hbw.trans (hb4.mono hbw.size)⟩
        have q1 := cq (W := wo) (q0 true ⟨fun _ => hs, fun _ => rfl⟩)
        have HF := Lib.hid (hte (att_ext hn hs))
        clear hn q0 hne hte hs
        go_wp2
        refine wp_region_quiet_below (by kernel_rfl) (by kernel_rfl) ?_
        repeat (first | go_big_quiet_step ((go_at_call 39; exact q1 _ _)) | quiet_step ((go_at_call 39; exact q1 _ _)))
        refine wpQuiet_nil ?_
        intro _ hw'
        obtain ⟨⟨dq, osq⟩, hw''⟩ := hw'
        subst hw''
        have hb4 := below_regrown wo dq osq
        generalize grow (redrawn wo dq) osq = W4 at hb4 ⊢
        clear q1
        go_wp2_with fail
        go_roundw
        case rel => exact ⟨k + 1, by omega, by go_num, hbw.trans (hb4.mono hbw.size), HF⟩
        case measure => simp [intOf]; omega
      · have hltI : ¬ (k : Int) < (a.length : Int) := by omega
        have hltJ : ¬ (k : Int) < (b.length : Int) := by have := H0.out; omega
        have HF : Hid (r = true) := HRR.out.2 (by
          have h1 := hinv.out
          have h2 := H0.out
          rwa [List.take_of_length_le (by omega), List.take_of_length_le (by omega)] at h1)
        clear hinv
        go_wp2
        go_ret
        exact ⟨ret_bool HF.out.symm, hbw⟩
  · have h0I : ((a.length : Int) != (b.length : Int)) = true := by rw [bne_iff_ne]; omega
    have HF := Lib.hid (no_true hr fun h => h0 (by rw [h]))
    go_wp2_with fail
    go_ret
    exact ⟨ret_bool HF.out.symm, Below.refl _ _⟩
set_option maxRecDepth 100000 in
theorem r8_Same_any (n m : ByteArray) (a b : Value) (l k : List Idn.Att) (r : Bool) (hr : r = true ↔ L n = L m ∧ l = k) (w : World) (ha : AttsV w w.heap.size a l) (hb : AttsV w w.heap.size b k) (hl : l.length ≤ 1000000000) (hk : k.length ≤ 1000000000) (hlv : ∀ x ∈ l, x.vals.length ≤ 1000000000) (hkv : ∀ x ∈ k, x.vals.length ≤ 1000000000) :
    Calls Tryz.prog 19 #[.agg #[.string n, a], .agg #[.string m, b]] w fun e w' => e = .returned (.bool r) ∧ Below w.heap.size w w' := by
  have hS := fun rr hrr W (hW : Below w.heap.size w W) => sameA_any a b l k rr hrr W (AttsV.mono (AttsV.keep ha hW) hW.size) (AttsV.mono (AttsV.keep hb hW) hW.size) hl hk hlv hkv
  obtain ⟨A, c, rfl, _⟩ := SlV.shape ha
  obtain ⟨A2, c2, rfl, _⟩ := SlV.shape hb
  have ht : (n.toList == m.toList) = decide (L n = L m) := str_beq n m
  go_enter Tryz.func19, Tryz.ntmps19
  go_upto_region 1 with fail
  with_reducible refine gen2 (R := fun W => Code.wp Tryz.prog _ _ _ W) ?_
  intro W hbW hszW hc1 hc2
  have a0 : W.cell? ⟨w.heap.size, 0, none⟩ = some (.string n) := hc1 0 _ rfl
  have a1 : W.cell? ⟨w.heap.size, 1, none⟩ = some (.slice A l.length c) := hc1 1 _ rfl
  have b0 : W.cell? ⟨w.heap.size + 1, 0, none⟩ = some (.string m) := hc2 0 _ rfl
  have b1 : W.cell? ⟨w.heap.size + 1, 1, none⟩ = some (.slice A2 k.length c2) := hc2 1 _ rfl
  clear hc1 hc2 hszW
  by_cases hn : L n = L m
  · rw [decide_eq_true hn] at ht
    have hq := hS r ⟨fun h => (hr.1 h).2, fun h => hr.2 ⟨hn, h⟩⟩ W hbW
    clear hS hr hn
    go_wp2_with fail
    refine hq.mono ?_
    rintro e w1 ⟨rfl, hb1⟩
    go_wp2_with fail
    go_ret
    exact ⟨by first | rfl | (cases r <;> rfl), hbW.trans (hb1.mono hbW.size)⟩
  · rw [decide_eq_false hn] at ht
    have HF := Lib.hid (no_true hr fun h => hn h.1)
    clear hS hr hn
    go_wp2_with fail
    go_ret
    exact ⟨ret_bool HF.out.symm, hbW⟩
end Go.Proofs.YtoopoglkeeoamaaGreatDoor
