/- Part 53 of the proof that the statements of identitylaw09 on matching hold at all arguments: the package variables hold what the program lays; nothing else is asked. -/
import Derived.Test.YtmamnmjfbadiiaaGreatDoorFz44
import Derived.Test.YtmamnmjfbadiiaaGreatDoorFz51
import Derived.Test.YtmamnmjfbadiiaaGreatDoorFz52
set_option linter.unusedVariables false
set_option linter.unusedSimpArgs false
set_option maxRecDepth 100000
set_option maxHeartbeats 16000000
/- law09: FilterSimplifies. -/
namespace Go.Proofs.YtmamnmjfbadiiaaGreatDoor
open Go.RowKit Go.Sort
open Idn (L B Bs drop_L take_L size_L)
theorem fSimp_sm {n : Nat} {f : Flt} (h : FSm n f) : FSm (2 * n) (fSimp f) := by
 unfold fSimp
 by_cases h1 : fCheck f = 0
 ·have hI : (fCheck f != 0) = false := by simpa using h1
  rw [hI, if_neg (by decide)]
  split
  ·exact h.up (by omega)
  ·exact fMov_sm h (fCheck_zero.1 h1).2.2 false
 ·have hI : (fCheck f != 0) = true := by simpa using h1
  rw [hI, if_pos rfl]
  exact h.up (by omega)
theorem filterSimplifies_any (u : Value) (s : Idn.Sch) (d : Nat) (v : Value) (f : Flt) (nm : ByteArray) (av : Value) (A : List Idn.Att) (w : World) (hu : SchV w w.heap.size u s) (hsl : SLen s) (hv : FltV w w.heap.size d v f) (hl : fLen f) (ha : AttsV w w.heap.size av A) (hal : ALen8 A) (hn : nm.size ≤ 9223372036854775807) (hE : Env w) (hU : EnvU w) :
    Calls Tryz.prog 7 #[u, v, .agg #[.string nm, av]] w fun e w' => e = .returned (.bool true) ∧ Below w.heap.size w w' := by
  have kW := fun W (hW : Below w.heap.size w W) => wide_any u s W (SchV.mono (SchV.keep hu hW) hW.size) hsl
  have kR := fun W (hW : Below w.heap.size w W) => rich_any nm av A W (AttsV.mono (AttsV.keep ha hW) hW.size) hal hn
  have kG := fun W (hW : Below w.heap.size w W) => r9_Great_any d v f 80 W (hv.on hW) hl (by decide)
  have kL := fun W (hW : Below w.heap.size w W) => live9_any W (hE.keep hW) (hU.keep hW)
  have k0 := fun (hf : FSm 400 f) W (hW : Below w.heap.size w W) => simplify_any d v f W (hv.on hW) hf
  have k1 := fun (hf : FSm 400 f) W (hW : Below w.heap.size w W) => r9_Simplify_any d v f W.heap.size W (hv.on hW) (Nat.le_refl _) hf
  have k3 := fun (hs : SSm s) (hA : AGet A) (D : Nat) (vg : Value) (g : Flt) (hg : FSm 1000 g) W (hW : Below w.heap.size w W) (hvg : FltV W W.heap.size D vg g) => fMatch_any D u s vg g nm av A W (SchV.mono (SchV.keep hu hW) hW.size) hs (hE.keep hW) (hU.keep hW) (AttsV.mono (AttsV.keep ha hW) hW.size) hA hvg hg
  have kv := fun W (hW : Below w.heap.size w W) => hv.on hW
  have LAW := Lib.hid (fSimp_law s A f)
  obtain ⟨Ap, cp, Ak, ck, rfl, hp, hk⟩ := hv.shape
  obtain ⟨sa, sb, rfl, hT, hC⟩ := hu
  obtain ⟨A1, c1, rfl, _⟩ := SlV.shape hT
  obtain ⟨A2, c2, rfl, _⟩ := SlV.shape hC
  obtain ⟨A3, c3, rfl, _⟩ := SlV.shape ha
  clear hp hk hv hT hC ha hE hU hl hsl hal
  go_enter Tryz.func7, Tryz.ntmps7
  go_upto_region 1 with fail
  with_reducible refine gen3 (R := fun W => Code.wp Tryz.prog _ _ _ W) ?_
  intro W hbW hszW hc1 hc2 hc3 _
  have s0 : W.cell? ⟨w.heap.size, 0, none⟩ = some (.slice A1 s.types.length c1) := hc1 0 _ rfl
  have s1 : W.cell? ⟨w.heap.size, 1, none⟩ = some (.slice A2 s.classes.length c2) := hc1 1 _ rfl
  have b0 : W.cell? ⟨w.heap.size + 1, 0, none⟩ = some (.int .i64 f.kind) := hc2 0 _ rfl
  have b1 : W.cell? ⟨w.heap.size + 1, 1, none⟩ = some (.string (B f.name)) := hc2 1 _ rfl
  have b2 : W.cell? ⟨w.heap.size + 1, 2, none⟩ = some (.string (B f.value)) := hc2 2 _ rfl
  have b3 : W.cell? ⟨w.heap.size + 1, 3, none⟩ = some (.slice Ap f.parts.length cp) := hc2 3 _ rfl
  have b4 : W.cell? ⟨w.heap.size + 1, 4, none⟩ = some (.slice Ak f.kids.length ck) := hc2 4 _ rfl
  have e0 : W.cell? ⟨w.heap.size + 1 + 1, 0, none⟩ = some (.string nm) := hc3 0 _ rfl
  have e1 : W.cell? ⟨w.heap.size + 1 + 1, 1, none⟩ = some (.slice A3 A.length c3) := hc3 1 _ rfl
  clear hc1 hc2 hc3 hszW
  go_wp2_with fail
  refine (kW W hbW).mono ?_
  rintro e w1 ⟨r1, rfl, hr1, hb1⟩
  replace s0 := cell_later hb1 s0
  replace s1 := cell_later hb1 s1
  replace b0 := cell_later hb1 b0
  replace b1 := cell_later hb1 b1
  replace b2 := cell_later hb1 b2
  replace b3 := cell_later hb1 b3
  replace b4 := cell_later hb1 b4
  replace e0 := cell_later hb1 e0
  replace e1 := cell_later hb1 e1
  have hbw1 := hbW.trans (hb1.mono hbW.size)
  have H1 := Lib.hid hr1
  clear kW hb1 hr1 hbW
  cases r1
  case true =>
    clear H1 k0 k1 k3 kv LAW kR kG s0 s1 b0 b1 b2 b3 b4 e0 e1
    go_wp2_with fail
    refine (kL w1 hbw1).mono ?_
    rintro e w9 ⟨rfl, hb9⟩
    go_wp2_with fail
    go_ret
    exact ⟨rfl, hbw1.trans (hb9.mono hbw1.size)⟩
  have G1 := Lib.hid (H1.out rfl)
  clear H1
  go_wp2_with fail
  refine (kR w1 hbw1).mono ?_
  rintro e w2 ⟨r2, rfl, hr2, hb2⟩
  replace s0 := cell_later hb2 s0
  replace s1 := cell_later hb2 s1
  replace b0 := cell_later hb2 b0
  replace b1 := cell_later hb2 b1
  replace b2 := cell_later hb2 b2
  replace b3 := cell_later hb2 b3
  replace b4 := cell_later hb2 b4
  replace e0 := cell_later hb2 e0
  replace e1 := cell_later hb2 e1
  have hbw2 := hbw1.trans (hb2.mono hbw1.size)
  have H2 := Lib.hid hr2
  clear kR hb2 hr2 hbw1
  cases r2
  case true =>
    clear H2 k0 k1 k3 kv LAW kG G1 s0 s1 b0 b1 b2 b3 b4 e0 e1
    go_wp2_with fail
    refine (kL w2 hbw2).mono ?_
    rintro e w9 ⟨rfl, hb9⟩
    go_wp2_with fail
    go_ret
    exact ⟨rfl, hbw2.trans (hb9.mono hbw2.size)⟩
  have G2 := Lib.hid (H2.out rfl)
  clear H2
  go_wp2_with fail
  refine (kG w2 hbw2).mono ?_
  rintro e w3 ⟨r3, rfl, hr3, hb3⟩
  replace s0 := cell_later hb3 s0
  replace s1 := cell_later hb3 s1
  replace b0 := cell_later hb3 b0
  replace b1 := cell_later hb3 b1
  replace b2 := cell_later hb3 b2
  replace b3 := cell_later hb3 b3
  replace b4 := cell_later hb3 b4
  replace e0 := cell_later hb3 e0
  replace e1 := cell_later hb3 e1
  have hb := hbw2.trans (hb3.mono hbw2.size)
  have H3 := Lib.hid hr3
  clear kG hb3 hr3 hbw2
  cases r3
  case true =>
    clear H3 k0 k1 k3 kv LAW G1 G2 s0 s1 b0 b1 b2 b3 b4 e0 e1
    go_wp2_with fail
    refine (kL w3 hb).mono ?_
    rintro e w9 ⟨rfl, hb9⟩
    go_wp2_with fail
    go_ret
    exact ⟨rfl, hb.trans (hb9.mono hb.size)⟩
  have G3 := Lib.hid (H3.out rfl)
  clear H3
  have hf4 : FSm 400 f := G3.out.up (by decide)
  have hf : FSm 1000 f := G3.out.up (by decide)
  have hg4 : FSm 400 (fSimp f) := (fSimp_sm G3.out).up (by decide)
  have hg : FSm 1000 (fSimp f) := hg4.up (by decide)
  replace k0 := k0 hf4
  replace k1 := k1 hf4
  replace k3 := k3 G1.out G2.out
  obtain ⟨hl1, hl2⟩ := LAW.out
  clear G1 G2 G3 hf4 LAW
  generalize fSimp f = g at *
  go_wp2_with fail
  refine (k0 w3 hb).mono ?_
  rintro e w4 ⟨r4, rfl, hn4, hb4⟩
  obtain ⟨Aq, cq', Al, cl, hr4⟩ := hn4.shape
  subst hr4
  replace s0 := cell_later hb4 s0
  replace s1 := cell_later hb4 s1
  replace b0 := cell_later hb4 b0
  replace b1 := cell_later hb4 b1
  replace b2 := cell_later hb4 b2
  replace b3 := cell_later hb4 b3
  replace b4 := cell_later hb4 b4
  replace e0 := cell_later hb4 e0
  replace e1 := cell_later hb4 e1
  have hbw4 := hb.trans (hb4.mono hb.size)
  go_upto_region 4 with fail
  with_reducible refine gen1 (R := fun W => Code.wp Tryz.prog _ _ _ W) ?_
  intro w5 hb5 hs5 hc5 _
  have y0 : w5.cell? ⟨w4.heap.size, 0, none⟩ = some (.int .i64 g.kind) := hc5 0 _ rfl
  have y1 : w5.cell? ⟨w4.heap.size, 1, none⟩ = some (.string (B g.name)) := hc5 1 _ rfl
  have y2 : w5.cell? ⟨w4.heap.size, 2, none⟩ = some (.string (B g.value)) := hc5 2 _ rfl
  have y3 : w5.cell? ⟨w4.heap.size, 3, none⟩ = some (.slice Aq g.parts.length cq') := hc5 3 _ rfl
  have y4 : w5.cell? ⟨w4.heap.size, 4, none⟩ = some (.slice Al g.kids.length cl) := hc5 4 _ rfl
  replace s0 := cell_later hb5 s0
  replace s1 := cell_later hb5 s1
  replace b0 := cell_later hb5 b0
  replace b1 := cell_later hb5 b1
  replace b2 := cell_later hb5 b2
  replace b3 := cell_later hb5 b3
  replace b4 := cell_later hb5 b4
  replace e0 := cell_later hb5 e0
  replace e1 := cell_later hb5 e1
  have hbw5 := hbw4.trans (hb5.mono hbw4.size)
  have hvg := FltV.on hn4.now hb5
  clear k0 hn4 hb4 hbw4 hb hc5 hs5 hb5
  have hSt : ∀ W', Below w5.heap.size w5 W' → (W'.cell? ⟨w.heap.size, 0, none⟩ = some (.slice A1 s.types.length c1) ∧ W'.cell? ⟨w.heap.size, 1, none⟩ = some (.slice A2 s.classes.length c2) ∧ W'.cell? ⟨w.heap.size + 1, 0, none⟩ = some (.int .i64 f.kind) ∧ W'.cell? ⟨w.heap.size + 1, 1, none⟩ = some (.string (B f.name)) ∧ W'.cell? ⟨w.heap.size + 1, 2, none⟩ = some (.string (B f.value)) ∧ W'.cell? ⟨w.heap.size + 1, 3, none⟩ = some (.slice Ap f.parts.length cp) ∧ W'.cell? ⟨w.heap.size + 1, 4, none⟩ = some (.slice Ak f.kids.length ck) ∧ W'.cell? ⟨w.heap.size + 1 + 1, 0, none⟩ = some (.string nm) ∧ W'.cell? ⟨w.heap.size + 1 + 1, 1, none⟩ = some (.slice A3 A.length c3) ∧ W'.cell? ⟨w4.heap.size, 0, none⟩ = some (.int .i64 g.kind) ∧ W'.cell? ⟨w4.heap.size, 1, none⟩ = some (.string (B g.name)) ∧ W'.cell? ⟨w4.heap.size, 2, none⟩ = some (.string (B g.value)) ∧ W'.cell? ⟨w4.heap.size, 3, none⟩ = some (.slice Aq g.parts.length cq') ∧ W'.cell? ⟨w4.heap.size, 4, none⟩ = some (.slice Al g.kids.length cl) ∧ Below w5.heap.size w5 W') := fun W' hW =>
    ⟨cell_later hW s0, cell_later hW s1, cell_later hW b0, cell_later hW b1, cell_later hW b2, cell_later hW b3, cell_later hW b4, cell_later hW e0, cell_later hW e1, cell_later hW y0, cell_later hW y1, cell_later hW y2, cell_later hW y3, cell_later hW y4, hW⟩
  have d1 := fun W (hW : Below w5.heap.size w5 W) => k1 W (hbw5.trans (hW.mono hbw5.size))
  have d2 := fun (r : Value) (D : Nat) W (hW : Below w5.heap.size w5 W) (hr : FltV W W.heap.size D r g) => r9_Equal_any (d + 1) D _ r g g true W (hvg.on hW) hr hg hg (iff_of_true rfl rfl)
  have d3 := fun W (hW : Below w5.heap.size w5 W) => k3 (d + 1) _ g hg W (hbw5.trans (hW.mono hbw5.size)) (hvg.on hW)
  have d4 := fun W (hW : Below w5.heap.size w5 W) => k3 d _ f hf W (hbw5.trans (hW.mono hbw5.size)) (kv W (hbw5.trans (hW.mono hbw5.size)))
  have d5 := fun W (hW : Below w5.heap.size w5 W) => simplify_any (d + 1) _ g W (hvg.on hW) hg4
  have d6 := fun (r : Value) (D : Nat) W (hW : Below w5.heap.size w5 W) (hr : FltV W W.heap.size D r g) => r9_Equal_any D (d + 1) r _ g g true W hr (hvg.on hW) hg hg (iff_of_true rfl rfl)
  have d7 := fun W (hW : Below w5.heap.size w5 W) => kL W (hbw5.trans (hW.mono hbw5.size))
  rw [hl1] at d3
  rw [hl2] at d5
  generalize fMatch s A f = m at *
  have t1 : (m == m) = true := beq_self_eq_true m
  clear k1 k3 kv kL hl1 hl2 hf hg hg4 hvg s0 s1 b0 b1 b2 b3 b4 e0 e1 y0 y1 y2 y3 y4
  go_wp2_with fail
  go_region_held3 (fun W' => (W'.cell? ⟨w.heap.size, 0, none⟩ = some (.slice A1 s.types.length c1) ∧ W'.cell? ⟨w.heap.size, 1, none⟩ = some (.slice A2 s.classes.length c2) ∧ W'.cell? ⟨w.heap.size + 1, 0, none⟩ = some (.int .i64 f.kind) ∧ W'.cell? ⟨w.heap.size + 1, 1, none⟩ = some (.string (B f.name)) ∧ W'.cell? ⟨w.heap.size + 1, 2, none⟩ = some (.string (B f.value)) ∧ W'.cell? ⟨w.heap.size + 1, 3, none⟩ = some (.slice Ap f.parts.length cp) ∧ W'.cell? ⟨w.heap.size + 1, 4, none⟩ = some (.slice Ak f.kids.length ck) ∧ W'.cell? ⟨w.heap.size + 1 + 1, 0, none⟩ = some (.string nm) ∧ W'.cell? ⟨w.heap.size + 1 + 1, 1, none⟩ = some (.slice A3 A.length c3) ∧ W'.cell? ⟨w4.heap.size, 0, none⟩ = some (.int .i64 g.kind) ∧ W'.cell? ⟨w4.heap.size, 1, none⟩ = some (.string (B g.name)) ∧ W'.cell? ⟨w4.heap.size, 2, none⟩ = some (.string (B g.value)) ∧ W'.cell? ⟨w4.heap.size, 3, none⟩ = some (.slice Aq g.parts.length cq') ∧ W'.cell? ⟨w4.heap.size, 4, none⟩ = some (.slice Al g.kids.length cl) ∧ Below w5.heap.size w5 W'))
    (first | (refine hSt _ ?_; repeat (first | with_reducible exact Below.refl _ _ | with_reducible apply Below.drew | with_reducible refine Below.on ?_ ha1 | with_reducible refine Below.on ?_ ha2 | with_reducible refine Below.on ?_ ha3 | with_reducible refine Below.on ?_ ha4 | with_reducible refine Below.on ?_ ha5 | with_reducible refine Below.on ?_ ha6 | with_reducible refine Below.on ?_ ha7)))
    (first
      | (go_at_call 29; refine (d1 _ (by repeat (first | with_reducible exact Below.refl _ _ | with_reducible apply Below.drew))).mono ?_; rintro e x1 ⟨r1, rfl, hn1, ha1⟩; have v1 := hn1.now; obtain ⟨P1, z1, Q1, q1, hr1⟩ := hn1.shape; subst hr1; clear hn1)
      | (go_at_call 19
         have _hx := ha5
         refine (d6 _ _ _ ?_ (FltV.on v5 ?_)).mono ?_
         · repeat (first | with_reducible exact Below.refl _ _ | with_reducible apply Below.drew | with_reducible refine Below.on ?_ ha1 | with_reducible refine Below.on ?_ ha2 | with_reducible refine Below.on ?_ ha3 | with_reducible refine Below.on ?_ ha4 | with_reducible refine Below.on ?_ ha5)
         · repeat (first | with_reducible exact Below.refl _ _ | with_reducible apply Below.drew)
         rintro e x6 ⟨rfl, ha6⟩)
      | (go_at_call 19
         refine (d2 _ _ _ ?_ (FltV.on v1 ?_)).mono ?_
         · repeat (first | with_reducible exact Below.refl _ _ | with_reducible apply Below.drew | with_reducible refine Below.on ?_ ha1)
         · repeat (first | with_reducible exact Below.refl _ _ | with_reducible apply Below.drew)
         rintro e x2 ⟨rfl, ha2⟩)
      | (go_at_call 22; with_reducible refine (d3 _ (by repeat (first | with_reducible exact Below.refl _ _ | with_reducible apply Below.drew | with_reducible refine Below.on ?_ ha1 | with_reducible refine Below.on ?_ ha2))).mono ?_; rintro e x3 ⟨rfl, ha3⟩)
      | (go_at_call 22; with_reducible refine (d4 _ (by repeat (first | with_reducible exact Below.refl _ _ | with_reducible apply Below.drew | with_reducible refine Below.on ?_ ha1 | with_reducible refine Below.on ?_ ha2 | with_reducible refine Below.on ?_ ha3))).mono ?_; rintro e x4 ⟨rfl, ha4⟩)
      | (go_at_call 28; refine (d5 _ (by repeat (first | with_reducible exact Below.refl _ _ | with_reducible apply Below.drew | with_reducible refine Below.on ?_ ha1 | with_reducible refine Below.on ?_ ha2 | with_reducible refine Below.on ?_ ha3 | with_reducible refine Below.on ?_ ha4))).mono ?_; rintro e x5 ⟨r5, rfl, hn5, ha5⟩; have v5 := hn5.now; obtain ⟨P5, z5, Q5, q5, hr5⟩ := hn5.shape; subst hr5; clear hn5)
      | (go_at_call 11; refine (d7 _ (by repeat (first | with_reducible exact Below.refl _ _ | with_reducible apply Below.drew | with_reducible refine Below.on ?_ ha1 | with_reducible refine Below.on ?_ ha2 | with_reducible refine Below.on ?_ ha3 | with_reducible refine Below.on ?_ ha4 | with_reducible refine Below.on ?_ ha5 | with_reducible refine Below.on ?_ ha6))).mono ?_; rintro e x7 ⟨rfl, ha7⟩))
  all_goals
    have hfin : Below w5.heap.size w5 x7 := by repeat (first | with_reducible exact Below.refl _ _ | with_reducible apply Below.drew | with_reducible refine Below.on ?_ ha1 | with_reducible refine Below.on ?_ ha2 | with_reducible refine Below.on ?_ ha3 | with_reducible refine Below.on ?_ ha4 | with_reducible refine Below.on ?_ ha5 | with_reducible refine Below.on ?_ ha6 | with_reducible refine Below.on ?_ ha7)
    go_wp2_with fail
    go_ret
    exact ⟨rfl, hbw5.trans (hfin.mono hbw5.size)⟩
end Go.Proofs.YtmamnmjfbadiiaaGreatDoor
/- FilterSimplifies: the contract as the row asks it, the statement, the card. -/
namespace Go.Proofs.YtmamnmjfbadiiaaGreatDoor
open Go.RowKit Go.Sort Go.Shelf Go.ChangeShapes Go.WideShapes Go.ChangeAt Go.ChangeMaps
theorem laid_eqFS : Rows.filterSimplifiesRow.laid = laidL := by
 unfold laidL
 rw [← pow_eq, ← acc_eq, ← first_eq, ← case_eq]
 rfl
theorem cFS_contract (F : Stop.Interp) (H : Type) (enc : TypeId × Value → H) (W : World) (base : Nat) (args : Array Value) (ds gs : List (DataW H)) (before : List MemPlace)
  (hval : ∀ (j : Nat) t v, Tryz.f7.params[j]? = some t → args[j]? = some v → Value.okWide Tryz.prog W .any base t v)
  (hW : DataW.Whole enc Tryz.prog Tryz.f7.params.toList Rows.filterSimplifiesSpec.vars false W args.toList ds gs before) (hL : laidMet Tryz.prog laidL W) (hsh : W.ShapedOpen Tryz.prog) :
  Calls Tryz.prog 7 args W fun e W' => ∃ v, e = .returned v ∧ ((OpenSpec.ofChange Rows.filterSimplifiesSpec).at F).post enc Tryz.prog Tryz.f7 false true false false W args v W' := by
 have hW' := hW
 obtain ⟨p, q, hA0, hV0, rfl, _, _⟩ := hW
 have hA : DataW.TrodAll enc Tryz.prog W 0 (fun _ => true) true Tryz.f7.params.toList args.toList ds p := hA0
 rw [Tryz.params7] at hA hval
 obtain ⟨v0, v1, v2, d0, d1, d2, p0, p1, p2, rfl, rfl, rfl, h0, h1, h2⟩ := trodAll_three hA
 obtain ⟨rfl, rfl⟩ := trodVars_none hV0
 obtain ⟨n2, a2, l2, rfl, hA3, hl2, hn2⟩ := entry_open8 (hval 2 44 v2 rfl rfl) h2
 obtain ⟨s0, hS0, hl0⟩ := schema_open (hval 0 41 v0 rfl rfl) h0
 obtain ⟨d1f, f1, hF1, hl1⟩ := filter_open (hval 1 26 v1 rfl rfl) h1
 clear hA0 hV0 hval
 simp only [List.append_nil, List.append_assoc] at hW'
 have hlt : ∀ x ∈ p0 ++ (p1 ++ p2), x.block < W.heap.size := fun x hx => by simpa using hW'.lt x (by simpa using hx)
 obtain ⟨hE, hU⟩ := env_of hL hsh
 refine (filterSimplifies_any v0 s0 d1f v1 f1 n2 a2 l2 W hS0 hl0 hF1 hl1 hA3 hl2 hn2 hE hU).mono ?_
 rintro e W' ⟨rfl, bel⟩
 have e1 : ((OpenSpec.ofChange Rows.filterSimplifiesSpec).at F).fn H ([d0, d1, d2] ++ []) = { results := [.lit (.bool true)], args := [d0, d1, d2] } := rfl
 refine ⟨_, rfl, _, _, _, [], (p0 ++ (p1 ++ p2)), [], hW', ?_, ?_, ?_, bel.frame _, fun h => by cases h⟩
 ·rw [e1]; exact trodAll_mk1 (shut_bool Tryz.underlying4 _)
 ·rw [e1]; exact trodAll_mk3 (Below.trod laidOut (by kernel_rfl) (of_decide_eq_true (by kernel_rfl)) h0 bel (fun x hx => hlt x (List.mem_append_left _ hx))) (Below.trod laidOut (by kernel_rfl) (of_decide_eq_true (by kernel_rfl)) h1 bel (fun x hx => hlt x (List.mem_append_right _ (List.mem_append_left _ hx)))) (Below.trod laidOut (by kernel_rfl) (of_decide_eq_true (by kernel_rfl)) h2 bel (fun x hx => hlt x (List.mem_append_right _ (List.mem_append_right _ hx))))
 ·rw [e1]; rfl
theorem noHandleFS {W : World} (h : laidMetH Tryz.prog Rows.filterSimplifiesRow.laid W) : laidMet Tryz.prog laidL W := by
 have e : (Rows.filterSimplifiesRow.laid.filter fun x => x.2.handleName?.isSome) = [] := by kernel_rfl
 unfold laidMetH at h
 rw [e] at h
 rw [← laid_eqFS]
 exact h
theorem laid_metFS (os : Os) (args : Array Value) : laidMet Tryz.prog Rows.filterSimplifiesRow.laid ((laidWorld os).forCall (fun _ _ => 0) ⟨#[], args, []⟩).memory := by
 rw [laid_eqFS]
 exact laid_metW os args
theorem witness_rowFS (os : Os) {H : Type} (enc : TypeId × Value → H) :
  (OpenSpec.ofChange Rows.filterSimplifiesSpec).preRow enc Tryz.prog Tryz.f7 Rows.filterSimplifiesRow.domain false Rows.filterSimplifiesRow.laid ((laidWorld os).forCall (fun _ _ => 0) ⟨#[], #[.agg #[.slice none 0 0, .slice none 0 0], .agg #[.int .i64 0, .string ⟨#[]⟩, .string ⟨#[]⟩, .slice none 0 0, .slice none 0 0], .agg #[.string ⟨#[]⟩, .slice none 0 0]], []⟩).memory #[.agg #[.slice none 0 0, .slice none 0 0], .agg #[.int .i64 0, .string ⟨#[]⟩, .string ⟨#[]⟩, .slice none 0 0, .slice none 0 0], .agg #[.string ⟨#[]⟩, .slice none 0 0]] := by
 have hw : (DataW.whole enc Tryz.prog ((laidWorld os).forCall (fun _ _ => 0) ⟨#[], #[.agg #[.slice none 0 0, .slice none 0 0], .agg #[.int .i64 0, .string ⟨#[]⟩, .string ⟨#[]⟩, .slice none 0 0, .slice none 0 0], .agg #[.string ⟨#[]⟩, .slice none 0 0]], []⟩).memory Tryz.f7.params.toList (OpenSpec.ofChange Rows.filterSimplifiesSpec).vars false #[Value.agg #[.slice none 0 0, .slice none 0 0], .agg #[.int .i64 0, .string ⟨#[]⟩, .string ⟨#[]⟩, .slice none 0 0, .slice none 0 0], .agg #[.string ⟨#[]⟩, .slice none 0 0]].toList 8).map (fun x => (x.1, x.2.1)) =
   some ([.agg [.nil, .nil], .agg [.lit (.int .i64 0), .lit (.string []), .lit (.string []), .nil, .nil], .agg [.lit (.string []), .nil]], []) := by kernel_rfl
 obtain ⟨⟨x1, x2, x3⟩, hx, hx1⟩ := Option.map_eq_some_iff.1 hw
 simp only [Prod.mk.injEq] at hx1
 obtain ⟨rfl, rfl⟩ := hx1
 exact OpenSpec.preRow_of_cond 8 hx (by kernel_rfl) (fun k hk => by cases hk) (by kernel_rfl) (laid_metFS os _)
theorem liftedFS (os : Os) (started : os.Started) (H : Type) (enc : TypeId × Value → H) (F : Stop.Interp) :
  ReturnsInHanded {} Tryz.checked os 7 .any ((OpenSpec.ofChange Rows.filterSimplifiesSpec).preRow enc Tryz.prog Tryz.f7 Rows.filterSimplifiesRow.domain false Rows.filterSimplifiesRow.laid) (((OpenSpec.ofChange Rows.filterSimplifiesSpec).at F).post enc Tryz.prog Tryz.f7 false true false false) := by
 refine returnsInHanded_of_row (C := Tryz.checked) (s := (OpenSpec.ofChange Rows.filterSimplifiesSpec)) own started (by kernel_rfl) Tryz.func7
  (witness_row_atRef (enc := enc) (C := Tryz.checked) false (laidWorld os) #[.agg #[.slice none 0 0, .slice none 0 0], .agg #[.int .i64 0, .string ⟨#[]⟩, .string ⟨#[]⟩, .slice none 0 0, .slice none 0 0], .agg #[.string ⟨#[]⟩, .slice none 0 0]] rfl (by kernel_rfl) (by kernel_rfl) (by kernel_rfl) (witness_rowFS os enc)) ?_
 intro W base args ds gs before hval hW _ _ _ hL hsh _
 exact cFS_contract F H enc W base args ds gs before hval hW (noHandleFS hL) hsh
end Go.Proofs.YtmamnmjfbadiiaaGreatDoor
/- FilterSimplifies: the statement. -/
namespace Go.Proofs.YtmamnmjfbadiiaaGreatDoor
open Go.RowKit Go.Sort Go.Shelf Go.ChangeShapes Go.WideShapes Go.ChangeAt Go.ChangeMaps
theorem closedFS : joinedFacts Tryz.pinned.checked.prog 7 Tryz.f7 (OpenSpec.ofChange Rows.filterSimplifiesSpec).bare Rows.filterSimplifiesRow = true := by
 unfold joinedFacts
 simp only [Bool.and_eq_true]
 repeat' with_reducible apply And.intro
 all_goals (as_aux_lemma => kernel_rfl)
theorem saidFS : Rows.FilterSimplifiesSaid :=
 OpenClaim.holds_of_cond 7 Tryz.f7 rfl rfl rfl rfl rfl rfl rfl ⟨rfl, rfl, rfl, rfl, rfl⟩ rfl rfl rfl rfl rfl (by kernel_rfl) Tryz.func7 closedFS
  (of_decide_eq_true (by kernel_rfl)) (by unfold Func.isWrapper; first | (rw [if_pos (by decide +kernel)]; kernel_rfl) | (rw [if_neg (by decide +kernel)]; exact ⟨rfl, rfl⟩))
  (fun os started H enc _ F => by rw [OpenClaim.pre_eq_preRow]; exact liftedFS os started H enc F)
end Go.Proofs.YtmamnmjfbadiiaaGreatDoor
/- FilterSimplifies: the card. -/
namespace Go.Proofs.YtmamnmjfbadiiaaGreatDoor
open Go.RowKit Go.Sort Go.Shelf Go.ChangeShapes Go.WideShapes Go.ChangeAt Go.ChangeMaps
theorem plainFS (f : FuncId) (fn : Func) (hf : Tryz.pinned.checked.prog.funcNamed "identity/identitylaw09.FilterSimplifies" = some f) (hfn : Tryz.pinned.checked.prog.funcs[f]? = some fn) :
  true = Tryz.pinned.checked.prog.looks [] ∧ ∀ (j : Nat) t, fn.params[j]? = some t → Tryz.pinned.checked.prog.wantsStandIn t = false := by
 obtain rfl : f = 7 := Option.some.inj ((show Tryz.prog.funcNamed "identity/identitylaw09.FilterSimplifies" = some 7 by kernel_rfl).symm.trans hf) |>.symm
 obtain rfl : fn = Tryz.f7 := (Option.some.inj (Tryz.func7.symm.trans hfn)).symm
 refine ⟨by kernel_rfl, fun j t ht => ?_⟩
 rw [Tryz.params7] at ht
 have hm := Array.mem_of_getElem? ht
 simp at hm
 rcases hm with rfl | rfl | rfl
 ·exact (show Tryz.prog.wantsStandIn 41 = false by kernel_rfl)
 ·exact (show Tryz.prog.wantsStandIn 26 = false by kernel_rfl)
 ·exact (show Tryz.prog.wantsStandIn 44 = false by kernel_rfl)
theorem filterSimplifies_card : Rows.FilterSimplifiesCardSaid :=
 Claim7.holds_tied_plain_at .later [] _ _ _ _ saidFS (fun _ h => by cases h) (by kernel_rfl) (fun _ h => by cases h) filterSimplifies_row_tie rfl ⟨rfl, rfl⟩ (by kernel_rfl) rfl plainFS (by kernel_rfl)
#print axioms filterSimplifies_card
end Go.Proofs.YtmamnmjfbadiiaaGreatDoor
