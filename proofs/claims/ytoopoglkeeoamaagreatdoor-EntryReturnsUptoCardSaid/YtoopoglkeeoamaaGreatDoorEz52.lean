/- Part 52 of the proof that identitylaw08.EntryParses and EntryReturns return true: the package variables hold what the program lays; nothing else is asked. -/
import Derived.Test.YtoopoglkeeoamaaGreatDoorEz38
import Derived.Test.YtoopoglkeeoamaaGreatDoorEz42
set_option linter.unusedVariables false
set_option linter.unusedSimpArgs false
/- attrs.Equal, entry.Equal. -/
namespace Go.Proofs.YtoopoglkeeoamaaGreatDoor
open Go.RowKit Go.Sort
open Idn (L B Bs drop_L take_L size_L)
set_option maxRecDepth 100000 in
theorem aequal1_any (x y : Bs) (v u : Value) (a b : List Bs) (w : World) (hi hi' : Nat) (hv : StrsV w hi v a) (hu : StrsV w hi' u b) (hhi : hi ≤ w.heap.size) (hhi' : hi' ≤ w.heap.size) (ha : a.length ≤ 1000000000) (hb : b.length ≤ 1000000000) :
    Calls Tryz.prog 130 #[.agg #[.string (B x), v], .agg #[.string (B y), u]] w fun e w' => e = .returned (.bool (x == y && a == b)) ∧ ∃ q os', w' = grow (w.drewN q) os' := by
  obtain ⟨A, c, rfl, hc⟩ := hv.shape
  obtain ⟨A2, c2, rfl, hc2⟩ := hu.shape
  have hE := fun W (hW : Below w.heap.size w W) => equalS_any _ _ a b W _ _ ((hv.mono hhi).keep hW) ((hu.mono hhi').keep hW) ha hb
  go_enter Tryz.func130, Tryz.ntmps130
  go_upto_region 1 with fail
  with_reducible refine gen2D (R := fun W => Code.wp Tryz.prog _ _ _ W) ?_
  intro W hbW hdr hc1 hc2
  have x0 : W.cell? ⟨w.heap.size, 0, none⟩ = some (.string (B x)) := hc1 0 _ rfl
  have x1 : W.cell? ⟨w.heap.size, 1, none⟩ = some (.slice A a.length c) := hc1 1 _ rfl
  have y0 : W.cell? ⟨w.heap.size + 1, 0, none⟩ = some (.string (B y)) := hc2 0 _ rfl
  have y1 : W.cell? ⟨w.heap.size + 1, 1, none⟩ = some (.slice A2 b.length c2) := hc2 1 _ rfl
  have hE0 := hE W hbW
  have HD := Lib.hid hdr
  clear hdr hc1 hc2 hE
  by_cases h : x = y
  · subst h
    go_wp2_with fail
    refine hE0.mono ?_
    rintro e w2 ⟨rfl, q, rfl⟩
    go_wp2
    go_ret
    refine ⟨by simp, grown_form (hbW.trans ((below_drew0 W q).mono hbW.size)) ?_⟩
    show w.drawn ≤ W.drawn + q
    have := HD.out
    omega
  · have hne : ¬ (B x).toList = (B y).toList := by rw [toList_L, toList_L, Idn.L_B, Idn.L_B]; exact h
    have ht : ((B x).toList == (B y).toList) = false := beq_eq_false_iff_ne.2 hne
    have hxy : (x == y) = false := beq_eq_false_iff_ne.2 h
    go_wp2_with fail
    go_ret
    refine ⟨by rw [hxy]; rfl, grown_form hbW ?_⟩
    have := HD.out
    omega
set_option maxRecDepth 100000 in
set_option maxHeartbeats 1000000 in
theorem equalB_any (v u : Value) (l m : List Idn.Att) (r : Bool) (hr : r = true ↔ l = m) (w : World) (hv : AttsV w w.heap.size v l) (hu : AttsV w w.heap.size u m) (hl : l.length ≤ 1000000) (hm : m.length ≤ 1000000) (hl2 : ∀ x ∈ l, x.vals.length ≤ 1000000000) (hm2 : ∀ x ∈ m, x.vals.length ≤ 1000000000) :
    Calls Tryz.prog 111 #[v, u, .func (.func 130) #[] #[]] w fun e w' => e = .returned (.bool r) ∧ Below w.heap.size w w' := by
  obtain ⟨A, c, rfl, hc⟩ := SlV.shape hv
  obtain ⟨A2, c2, rfl, hc2⟩ := SlV.shape hu
  go_enter Tryz.func111, Tryz.ntmps111
  by_cases h0 : l.length = m.length
  · have h0I : ((l.length : Int) != (m.length : Int)) = false := by rw [h0]; simp
    have H0 := Lib.hid h0
    have HRR := Lib.hid hr
    clear h0 hr
    go_wp2_with fail
    go_loopw [17] (fun i wr => ∃ (k : Nat), k ≤ l.length ∧ i = .int .i64 k ∧ Below w.heap.size w wr ∧ Hid (l.take k = m.take k)) (fun i _ => l.length - (intOf i).toNat)
    case atStart => exact ⟨0, Nat.zero_le _, rfl, Below.refl _ _, rfl⟩
    case round =>
      obtain ⟨k, hk, rfl, hb, hinv⟩ := hrel
      obtain ⟨wo, hwo⟩ : ∃ wo : World, wo = wr := ⟨_, rfl⟩
      subst hwo
      by_cases hlt : k < l.length
      · have h0' : k < m.length := by have := H0.out; omega
        obtain ⟨b1, o1, v1, hA, hb1, d0, d1, ds⟩ := AttsV.cell (hv.keep hb) hlt
        obtain ⟨b2, o2, v2, hA2, hb2, e0, e1, es⟩ := AttsV.cell (hu.keep hb) h0'
        subst hA hA2
        obtain ⟨Av, cv, rfl, _⟩ := ds.shape
        obtain ⟨Aw, cw, rfl, _⟩ := es.shape
        have hltI : (k : Int) < (l.length : Int) := by omega
        have hltJ : (k : Int) < (m.length : Int) := by omega
        have hC := fun (W : World) (hW : Below w.heap.size wo W) => aequal1_any l[k].name (m[k]'h0').name _ _ l[k].vals (m[k]'h0').vals W w.heap.size w.heap.size (ds.keep hW) (es.keep hW) (Nat.le_trans hb.size hW.size) (Nat.le_trans hb.size hW.size) (hl2 _ (List.getElem_mem _)) (hm2 _ (List.getElem_mem _))
        have hfl : (l[k].name == (m[k]'h0').name && l[k].vals == (m[k]'h0').vals) = false → l ≠ m := fun h e => by subst e; simp at h
        have htr : (l[k].name == (m[k]'h0').name && l[k].vals == (m[k]'h0').vals) = true → Hid (l.take (k + 1) = m.take (k + 1)) := fun h => by
          rw [Bool.and_eq_true, beq_iff_eq, beq_iff_eq] at h
          show _ = _
          rw [List.take_succ_eq_append_getElem hlt, List.take_succ_eq_append_getElem h0', hinv.out, att_ext h.1 h.2]
        clear hinv
        generalize (l[k].name == (m[k]'h0').name && l[k].vals == (m[k]'h0').vals) = bb at *
        generalize l[k].name = n1 at *
        generalize (m[k]'h0').name = n2 at *
        generalize l[k].vals.length = z1 at *
        generalize (m[k]'h0').vals.length = z2 at *
        go_upto_region 6 with fail
        with_reducible refine gen1 (R := fun W => Code.wp Tryz.prog _ _ _ W) ?_
        intro W6 hbW6 hszW6 hc6 _
        have x0 : W6.cell? ⟨wo.heap.size, 0, none⟩ = some (.string (B n1)) := hc6 0 _ rfl
        have x1 : W6.cell? ⟨wo.heap.size, 1, none⟩ = some (.slice Av z1 cv) := hc6 1 _ rfl
        replace e0 := cell_later hbW6 e0
        replace e1 := cell_later hbW6 e1
        clear hc6 d0 d1 hszW6
        go_upto_region 7 with fail
        with_reducible refine gen1 (R := fun W => Code.wp Tryz.prog _ _ _ W) ?_
        intro W7 hbW7 hszW7 hc7 _
        have y0 : W7.cell? ⟨W6.heap.size, 0, none⟩ = some (.string (B n2)) := hc7 0 _ rfl
        have y1 : W7.cell? ⟨W6.heap.size, 1, none⟩ = some (.slice Aw z2 cw) := hc7 1 _ rfl
        replace x0 := cell_later hbW7 x0
        replace x1 := cell_later hbW7 x1
        have hB2 : Below w.heap.size wo W7 := (hbW6.trans (hbW7.mono hbW6.size)).mono hb.size
        clear hc7 e0 e1 hszW7 hbW6 hbW7 ds es
        go_wp2_with fail
        refine (hC W7 hB2).mono ?_
        rintro e w2 ⟨rfl, q, os, rfl⟩
        have hb7 := (hb.trans hB2).trans ((below_drewn W7 q os).mono (hb.trans hB2).size)
        generalize grow (W7.drewN q) os = w2 at *
        clear hC x0 x1 y0 y1
        cases bb
        · have HN := Lib.hid (no_true HRR.out (hfl rfl))
          clear hfl htr
          go_wp2_with fail
          go_ret
          exact ⟨ret_bool HN.out.symm, hb7⟩
        · have HF := htr rfl
          clear hfl htr
          go_wp2_with fail
          go_roundw
          case rel => exact ⟨k + 1, by omega, by go_num, hb7, HF⟩
          case measure => simp [intOf]; omega
      · have hltI : ¬ (k : Int) < (l.length : Int) := by omega
        have hltJ : ¬ (k : Int) < (m.length : Int) := by have := H0.out; omega
        have HF : Hid (r = true) := HRR.out.2 (by
          have h1 := hinv.out
          have h2 := H0.out
          rwa [List.take_of_length_le (by omega), List.take_of_length_le (by omega)] at h1)
        clear hinv
        go_wp2_with fail
        go_ret
        exact ⟨ret_bool HF.out.symm, hb⟩
  · have h0I : ((l.length : Int) != (m.length : Int)) = true := by rw [bne_iff_ne]; omega
    have HF := Lib.hid (no_true hr fun h => h0 (by rw [h]))
    go_wp2_with fail
    go_ret
    exact ⟨ret_bool HF.out.symm, Below.refl _ _⟩
set_option maxRecDepth 100000 in
theorem attrsEqual_any (a b : Value) (l k : List Idn.Att) (r : Bool) (hr : r = true ↔ Idn.rSorted l = Idn.rSorted k) (w : World) (ha : AttsV w w.heap.size a l) (hb : AttsV w w.heap.size b k) (hl : Idn.ASm7 l) (hk : Idn.ASm7 k) (hls : Idn.ASm7 (Idn.rSorted l)) (hks : Idn.ASm7 (Idn.rSorted k)) :
    Calls Tryz.prog 73 #[a, b] w fun e w' => e = .returned (.bool r) ∧ Below w.heap.size w w' := by
  have h1 := sortedG_any a l w ha hl
  have h2 := fun W (hW : Below w.heap.size w W) => sortedG_any b k W (AttsV.mono (AttsV.keep hb hW) hW.size) hk
  have hS := fun (v u : Value) W (hv : AttsV W W.heap.size v (Idn.rSorted l)) (hu : AttsV W W.heap.size u (Idn.rSorted k)) => equalB_any v u (Idn.rSorted l) (Idn.rSorted k) r hr W hv hu (by have := hls.1; omega) (by have := hks.1; omega) (fun x hx => by have := (hls.2 x hx).2.1; omega) (fun x hx => by have := (hks.2 x hx).2.1; omega)
  clear hr
  go_enter Tryz.func73, Tryz.ntmps73
  go_wp2_with fail
  refine h1.mono ?_
  rintro e w1 ⟨v1, ps1, rfl, hr1, hp1, hb1⟩
  clear h1
  go_wp2_with fail
  refine (h2 w1 hb1).mono ?_
  rintro e w2 ⟨v2, ps2, rfl, hr2, hp2, hb2⟩
  have hbw2 := hb1.trans (hb2.mono hb1.size)
  have hq := hS v1 v2 w2 ((hr1.keep hb2).atts hp1) (hr2.atts hp2)
  clear h2 hS hr1 hr2 hp1 hp2
  go_wp2_with fail
  refine hq.mono ?_
  rintro e w3 ⟨rfl, hb3⟩
  go_wp2_with fail
  go_ret
  exact ⟨rfl, hbw2.trans (hb3.mono hbw2.size)⟩
set_option maxRecDepth 100000 in
theorem eEqual_any (n m : ByteArray) (a b : Value) (l k : List Idn.Att) (r : Bool) (hr : r = true ↔ L n = L m ∧ Idn.rSorted l = Idn.rSorted k) (w : World) (ha : AttsV w w.heap.size a l) (hb : AttsV w w.heap.size b k) (hl : Idn.ASm7 l) (hk : Idn.ASm7 k) (hls : Idn.ASm7 (Idn.rSorted l)) (hks : Idn.ASm7 (Idn.rSorted k)) :
    Calls Tryz.prog 30 #[.agg #[.string n, a], .agg #[.string m, b]] w fun e w' => e = .returned (.bool r) ∧ Below w.heap.size w w' := by
  have hS := fun rr hrr W (hW : Below w.heap.size w W) => attrsEqual_any a b l k rr hrr W (AttsV.mono (AttsV.keep ha hW) hW.size) (AttsV.mono (AttsV.keep hb hW) hW.size) hl hk hls hks
  obtain ⟨A, c, rfl, _⟩ := SlV.shape ha
  obtain ⟨A2, c2, rfl, _⟩ := SlV.shape hb
  have ht : (n.toList == m.toList) = decide (L n = L m) := str_beq n m
  go_enter Tryz.func30, Tryz.ntmps30
  go_upto_region 1 with fail
  with_reducible refine gen2 (R := fun W => Code.wp Tryz.prog _ _ _ W) ?_
  intro W hbW hszW hc1 hc2
  have a0 : W.cell? ⟨w.heap.size, 0, none⟩ = some (.string n) := hc1 0 _ rfl
  have a1 : W.cell? ⟨w.heap.size, 1, none⟩ = some (.slice A l.length c) := hc1 1 _ rfl
  have b0 : W.cell? ⟨w.heap.size + 1, 0, none⟩ = some (.string m) := hc2 0 _ rfl
  have b1 : W.cell? ⟨w.heap.size + 1, 1, none⟩ = some (.slice A2 k.length c2) := hc2 1 _ rfl
  clear hc1 hc2 hszW
  by_cases hn : L n = L m
  · rw [decide_eq_true hn] at ht
    have hq := hS r ⟨fun h => (hr.1 h).2, fun h => hr.2 ⟨hn, h⟩⟩ W hbW
    clear hS hr hn
    go_wp2_with fail
    refine hq.mono ?_
    rintro e w1 ⟨rfl, hb1⟩
    go_wp2_with fail
    go_ret
    exact ⟨by first | rfl | (cases r <;> rfl), hbW.trans (hb1.mono hbW.size)⟩
  · rw [decide_eq_false hn] at ht
    have HF := Lib.hid (no_true hr fun h => hn h.1)
    clear hS hr hn
    go_wp2_with fail
    go_ret
    exact ⟨ret_bool HF.out.symm, hbW⟩
end Go.Proofs.YtoopoglkeeoamaaGreatDoor
