/- Part 45 of the proof that SchemaLooks returns true for every schema and every name: the package variables hold what the program lays; nothing else is asked. -/
import Derived.Test.YtoelhiccofpgfaaGreatDoorLk14
import Derived.Test.YtoelhiccofpgfaaGreatDoorLk15
import Derived.Test.YtoelhiccofpgfaaGreatDoorLk41
import Derived.Test.YtoelhiccofpgfaaGreatDoorLk42
import Derived.Test.YtoelhiccofpgfaaGreatDoorLk44
import Derived.Deep.RegionHeld3
/- law07: SchemaChecks, walked. -/
namespace Go.Proofs.YtoelhiccofpgfaaGreatDoor
open Go.RowKit Go.Sort
open Idn (L B Bs drop_L take_L size_L)
/-- lengths that a slice or a string can have -/
def SLen (s : Idn.Sch) : Prop := s.types.length ≤ 9223372036854775807 ∧ s.classes.length ≤ 9223372036854775807 ∧ ∀ c ∈ s.classes, c.must.length ≤ 9223372036854775807 ∧ c.may.length ≤ 9223372036854775807
theorem short_sm {l : List Bs} (h : short l = true) : Sm l := by
  unfold short at h
  simp only [Bool.and_eq_true, List.all_eq_true, decide_eq_true_eq] at h
  exact ⟨by omega, fun x hx => by have := h.1 x hx; omega⟩
theorem few_ssm {s : Idn.Sch} (h : few s = true) : SSm s := by
  unfold few at h
  simp only [Bool.and_eq_true, List.all_eq_true, decide_eq_true_eq] at h
  obtain ⟨h1, h2, h3, h4⟩ := h
  refine ⟨⟨by omega, fun t ht => by have := h1 t ht; omega⟩, ⟨by omega, fun c hc => ?_⟩⟩
  have h5 := h2 c hc
  unfold fewC at h5
  simp only [Bool.and_eq_true, decide_eq_true_eq] at h5
  exact ⟨by omega, by omega, short_sm h5.2.2.1, short_sm h5.2.2.2⟩
set_option maxHeartbeats 2000000 in
set_option maxRecDepth 100000 in
theorem schemaChecks_any (v : Value) (s : Idn.Sch) (w : World) (hv : SchV w w.heap.size v s) (hl : SLen s) (hE : Env w) (hU : EnvU w) :
    Calls Tryz.prog 3 #[v] w fun e w' => e = .returned (.bool true) ∧ Below w.heap.size w w' := by
  have hF := fun W (hW : Below w.heap.size w W) => few_any v s W (SchV.mono (SchV.keep hv hW) hW.size) hl.1 hl.2.1 hl.2.2
  have hv0 := hv
  obtain ⟨a, b, rfl, hT, hC⟩ := hv
  obtain ⟨A, ca, rfl, hca⟩ := SlV.shape hT
  obtain ⟨A', cb, rfl, hcb⟩ := SlV.shape hC
  clear hT hC
  have hA := fun W (hW : Below w.heap.size w W) => alive_any W (hE.keep hW) (hU.keep hW)
  cases hf : few s
  · rw [hf] at hF
    go_enter Tryz.func3, Tryz.ntmps3
    go_wp2_with fail
    with_reducible refine gen1 (R := fun W => Calls Tryz.prog 5 _ W _) ?_
    intro W hbW hszW hc1 _
    refine (hF W hbW).mono ?_
    rintro e w1 ⟨rfl, hb1⟩
    have hb := hbW.trans (hb1.mono hbW.size)
    clear hF hc1
    go_wp2_with fail
    refine (hA w1 hb).mono ?_
    rintro e w2 ⟨rfl, hb2⟩
    go_wp2_with fail
    go_ret
    exact ⟨rfl, hb.trans (hb2.mono hb.size)⟩
  · rw [hf] at hF
    have hs := few_ssm hf
    have hC1 := fun W (hW : Below w.heap.size w W) => schCheck_any _ s W (SchV.mono (SchV.keep hv0 hW) hW.size) hs
    have hC2 := fun W (hW : Below w.heap.size w W) => r_check_any _ s W (SchV.mono (SchV.keep hv0 hW) hW.size) hs
    generalize Idn.sCheck s = ck at *
    clear hf hs hv0
    go_enter Tryz.func3, Tryz.ntmps3
    go_wp2_with fail
    with_reducible refine gen1 (R := fun W => Calls Tryz.prog 5 _ W _) ?_
    intro W hbW hszW hc1 _
    have q0 : W.cell? ⟨w.heap.size, 0, none⟩ = some (.slice A s.types.length ca) := hc1 0 _ rfl
    have q1 : W.cell? ⟨w.heap.size, 1, none⟩ = some (.slice A' s.classes.length cb) := hc1 1 _ rfl
    refine (hF W hbW).mono ?_
    rintro e w1 ⟨rfl, hb1⟩
    replace hb1 : Below W.heap.size W w1.drew := hb1.drew
    have hb : Below w.heap.size w w1.drew := hbW.trans (hb1.mono hbW.size)
    replace q0 : w1.drew.cell? ⟨w.heap.size, 0, none⟩ = some (.slice A s.types.length ca) := cell_later hb1 q0
    replace q1 : w1.drew.cell? ⟨w.heap.size, 1, none⟩ = some (.slice A' s.classes.length cb) := cell_later hb1 q1
    clear hF hc1 hb1 hszW hbW
    go_wp2_with fail
    go_region_law (first
      | (go_simp
         go_at_call 7
         refine (hC1 _ (by first | exact hb | exact hbR)).mono ?_
         rintro e wC ⟨rfl, hbC⟩
         first | have q0C := cell_later hbC q0R | have q0C := cell_later hbC q0
         first | have q1C := cell_later hbC q1R | have q1C := cell_later hbC q1
         first | have hbC' := hbR.trans (hbC.mono hbR.size) | have hbC' := hb.trans (hbC.mono hb.size)
         go_wp2_with fail)
      | (go_simp
         go_at_call 8
         refine (hC2 _ (by first | exact hb | exact hbC')).mono ?_
         rintro e wR ⟨rfl, hbR0⟩
         first | have q0R := cell_later hbR0 q0C | have q0R := cell_later hbR0 q0
         first | have q1R := cell_later hbR0 q1C | have q1R := cell_later hbR0 q1
         first | have hbR := hbC'.trans (hbR0.mono hbC'.size) | have hbR := hb.trans (hbR0.mono hb.size)
         go_wp2_with fail)
      | (go_simp
         go_at_call 6
         refine (hA _ (by first | exact hb | exact hbC' | exact hbR)).mono ?_
         rintro e wA ⟨rfl, hbA⟩
         go_wp2_with fail))
    all_goals
      go_wp2_with fail
      go_ret
      exact ⟨rfl, by first | exact hbR.trans (hbA.mono hbR.size) | exact hbC'.trans (hbA.mono hbC'.size)⟩
end Go.Proofs.YtoelhiccofpgfaaGreatDoor
/- law07: SchemaLooks, walked. -/
namespace Go.Proofs.YtoelhiccofpgfaaGreatDoor
open Go.RowKit Go.Sort
open Idn (L B Bs drop_L take_L size_L)
theorem linC_nm_len (s : Idn.Sch) (n : Bs) : ((linC (sound s) n).map (·.name)).length ≤ 1000000 := by
  have := linC_len (sound s) n
  have := (bd_sound s).1
  rw [List.length_map]; omega
theorem mayL_len6 (s : Idn.Sch) (n : Bs) : (mayL (sound s) n).length ≤ 1000000 := by
  have h1 := merged_len (mustL (sound s) n ++ (linC (sound s) n).flatMap (·.may))
  have h2 := mustL_len (bd_sound s) n
  have h3 := flat_len (·.may) 64 (linC (sound s) n) (fun c hc => ((bd_sound s).2 c (linC_mem hc)).2)
  have h4 := linC_len (sound s) n
  have h5 := (bd_sound s).1
  rw [List.length_append] at h1
  have e : mayL (sound s) n = merged (mustL (sound s) n ++ (linC (sound s) n).flatMap (·.may)) := rfl
  rw [e]; omega
theorem Below.on' {lo : Nat} {a b c : World} (h : Below lo a b) (h2 : Below b.heap.size b c) (hl : lo ≤ a.heap.size) : Below lo a c := h.trans (h2.mono (Nat.le_trans hl h.size))
set_option maxHeartbeats 4000000 in
set_option maxRecDepth 100000 in
theorem schemaLooks_any (v : Value) (s : Idn.Sch) (n : ByteArray) (w : World) (hv : SchV w w.heap.size v s) (hl : SLen s) (hn : n.size ≤ 9223372036854775807) (hE : Env w) (hU : EnvU w) :
    Calls Tryz.prog 4 #[v, .string n] w fun e w' => e = .returned (.bool true) ∧ Below w.heap.size w w' := by
  have hF := fun W (hW : Below w.heap.size w W) => few_any v s W (SchV.mono (SchV.keep hv hW) hW.size) hl.1 hl.2.1 hl.2.2
  have hv0 := hv
  obtain ⟨a, b, rfl, hT, hC⟩ := hv
  obtain ⟨A, ca, rfl, hca⟩ := SlV.shape hT
  obtain ⟨A', cb, rfl, hcb⟩ := SlV.shape hC
  clear hT hC
  have hA := fun W (hW : Below w.heap.size w W) => alive_any W (hE.keep hW) (hU.keep hW)
  cases hf : few s
  · rw [hf] at hF
    go_enter Tryz.func4, Tryz.ntmps4
    go_wp2_with fail
    with_reducible refine gen1 (R := fun W => Calls Tryz.prog 5 _ W _) ?_
    intro W hbW hszW hc1 _
    refine (hF W hbW).mono ?_
    rintro e w1 ⟨rfl, hb1⟩
    have hb := hbW.trans (hb1.mono hbW.size)
    clear hF hc1
    go_wp2_with fail
    refine (hA w1 hb).mono ?_
    rintro e w2 ⟨rfl, hb2⟩
    go_wp2_with fail
    go_ret
    exact ⟨rfl, hb.trans (hb2.mono hb.size)⟩
  · rw [hf] at hF
    by_cases hbig : 100 < n.size
    · have hbI : (100 : Int) < (n.size : Int) := by omega
      go_enter Tryz.func4, Tryz.ntmps4
      go_wp2_with fail
      with_reducible refine gen1 (R := fun W => Calls Tryz.prog 5 _ W _) ?_
      intro W hbW hszW hc1 _
      refine (hF W hbW).mono ?_
      rintro e w1 ⟨rfl, hb1⟩
      have hb := hbW.trans (hb1.mono hbW.size)
      clear hF hc1
      go_wp2_with fail
      refine (hA w1 hb).mono ?_
      rintro e w2 ⟨rfl, hb2⟩
      go_wp2_with fail
      go_ret
      exact ⟨rfl, hb.trans (hb2.mono hb.size)⟩
    · have hbI : ¬ (100 : Int) < (n.size : Int) := by omega
      have hs := few_ssm hf
      have hn9 : n.size ≤ 1000000000 := by omega
      have hV := fun W (hW : Below w.heap.size w W) => SchV.mono (SchV.keep hv0 hW) hW.size
      have c1 := fun W (hW : Below w.heap.size w W) => type_any _ s n W (hV W hW) hs hn9
      have c2 := fun W (hW : Below w.heap.size w W) => r_type_any _ s n W (hV W hW) hs hn9
      have c3 := fun W (hW : Below w.heap.size w W) => schLineage_any _ s n W (hV W hW) hs hn9
      have c4 := fun W (hW : Below w.heap.size w W) => r_Lineage_any _ s n W (hV W hW) hs hn9
      have c5 := fun W (hW : Below w.heap.size w W) => schMust_any _ s n W (hV W hW) hs hn9
      have c6 := fun W (hW : Below w.heap.size w W) => r_Must_any _ s n W (hV W hW) hs hn9
      have c7 := fun W (hW : Below w.heap.size w W) => schMay_any _ s n W (hV W hW) hs hn9
      have c8 := fun W (hW : Below w.heap.size w W) => r_May_any _ s n W (hV W hW) hs hn9
      have l1 := linC_nm_len s (L n)
      have l2 : (mustL (sound s) (L n)).length ≤ 1000000 := by have := mustL_len (bd_sound s) (L n); omega
      have l3 := mayL_len6 s (L n)
      generalize (linC (sound s) (L n)).map (·.name) = q1 at *
      generalize mustL (sound s) (L n) = q2 at *
      generalize mayL (sound s) (L n) = q3 at *
      generalize tyLook (sound s) (L n) = tl at *
      obtain ⟨⟨tn, ty, ts⟩, ok⟩ := tl
      unfold tyV sv at c1 c2
      dsimp only at c1 c2
      have hLi := fun (l : List Bs) (hl : l.length ≤ 1000000) (W : World) (v u : Value) (h1 : StrsV W W.heap.size v l) (h2 : StrsV W W.heap.size u l) => by
        have := r_lists_any v u l l W h1 h2 (by omega) (by omega)
        rw [decide_eq_true rfl] at this
        exact this
      clear hf hbig hs hv0 hV hl
      go_enter Tryz.func4, Tryz.ntmps4
      go_wp2_with fail
      with_reducible refine gen1 (R := fun W => Calls Tryz.prog 5 _ W _) ?_
      intro W hbW hszW hc1 _
      have b0 : W.cell? ⟨w.heap.size, 0, none⟩ = some (.slice A s.types.length ca) := hc1 0 _ rfl
      have b1 : W.cell? ⟨w.heap.size, 1, none⟩ = some (.slice A' s.classes.length cb) := hc1 1 _ rfl
      refine (hF W hbW).mono ?_
      rintro e w1 ⟨rfl, hb1⟩
      replace b0 := cell_later hb1 b0
      replace b1 := cell_later hb1 b1
      have hb := hbW.trans (hb1.mono hbW.size)
      clear hF hc1 hb1 hbW hszW
      go_wp2_with fail
      refine (c1 w1 hb).mono ?_
      rintro e w2 ⟨rfl, hb2⟩
      replace b0 := cell_later hb2 b0
      replace b1 := cell_later hb2 b1
      replace hb := hb.trans (hb2.mono hb.size)
      have ba := (Below.refl w2.heap.size w2).alloc (Nat.le_refl _) (.cells #[.string (B tn), .int .i64 ty, .bool ts] 32)
      have b0a := cell_later ba b0
      have b1a := cell_later ba b1
      clear hb2 c1 ba
      go_wp2_with fail
      with_reducible refine gen1 (R := fun W => Calls Tryz.prog 10 _ W _) ?_
      intro W3 hbW3 hszW3 hc3 _
      have g0 : W3.cell? ⟨w2.heap.size, 0, none⟩ = some (.string (B tn)) := hc3 0 _ rfl
      have g1 : W3.cell? ⟨w2.heap.size, 1, none⟩ = some (.int .i64 ty) := hc3 1 _ rfl
      have g2 : W3.cell? ⟨w2.heap.size, 2, none⟩ = some (.bool ts) := hc3 2 _ rfl
      replace b0 := cell_later hbW3 b0
      replace b1 := cell_later hbW3 b1
      replace hb := hb.trans (hbW3.mono hb.size)
      clear hc3 hbW3 hszW3 b0a b1a
      refine (c2 W3 hb).mono ?_
      rintro e w4 ⟨rfl, hb4⟩
      replace b0 := cell_later hb4 b0
      replace b1 := cell_later hb4 b1
      replace g0 := cell_later hb4 g0
      replace g1 := cell_later hb4 g1
      replace g2 := cell_later hb4 g2
      replace hb := hb.trans (hb4.mono hb.size)
      clear hb4 c2
      go_wp2_with fail
      with_reducible refine gen1 (R := fun W => Code.wp Tryz.prog _ _ _ W) ?_
      intro W5 hbW5 hszW5 hc5 _
      have k0 : W5.cell? ⟨w4.heap.size, 0, none⟩ = some (.string (B tn)) := hc5 0 _ rfl
      have k1 : W5.cell? ⟨w4.heap.size, 1, none⟩ = some (.int .i64 ty) := hc5 1 _ rfl
      have k2 : W5.cell? ⟨w4.heap.size, 2, none⟩ = some (.bool ts) := hc5 2 _ rfl
      replace b0 := cell_later hbW5 b0
      replace b1 := cell_later hbW5 b1
      replace g0 := cell_later hbW5 g0
      replace g1 := cell_later hbW5 g1
      replace g2 := cell_later hbW5 g2
      replace hb := hb.trans (hbW5.mono hb.size)
      clear hc5 hbW5 hszW5
      have hS : ∀ W', Below W5.heap.size W5 W' → W'.cell? ⟨w.heap.size, 0, none⟩ = some (.slice A s.types.length ca) ∧ W'.cell? ⟨w.heap.size, 1, none⟩ = some (.slice A' s.classes.length cb) ∧
          W'.cell? ⟨w2.heap.size, 0, none⟩ = some (.string (B tn)) ∧ W'.cell? ⟨w2.heap.size, 1, none⟩ = some (.int .i64 ty) ∧ W'.cell? ⟨w2.heap.size, 2, none⟩ = some (.bool ts) ∧
          W'.cell? ⟨w4.heap.size, 0, none⟩ = some (.string (B tn)) ∧ W'.cell? ⟨w4.heap.size, 1, none⟩ = some (.int .i64 ty) ∧ W'.cell? ⟨w4.heap.size, 2, none⟩ = some (.bool ts) ∧ Below W5.heap.size W5 W' := fun W' hW =>
        ⟨cell_later hW b0, cell_later hW b1, cell_later hW g0, cell_later hW g1, cell_later hW g2, cell_later hW k0, cell_later hW k1, cell_later hW k2, hW⟩
      have d3 := fun W (hW : Below W5.heap.size W5 W) => c3 W (hb.trans (hW.mono hb.size))
      have d4 := fun W (hW : Below W5.heap.size W5 W) => c4 W (hb.trans (hW.mono hb.size))
      have d5 := fun W (hW : Below W5.heap.size W5 W) => c5 W (hb.trans (hW.mono hb.size))
      have d6 := fun W (hW : Below W5.heap.size W5 W) => c6 W (hb.trans (hW.mono hb.size))
      have d7 := fun W (hW : Below W5.heap.size W5 W) => c7 W (hb.trans (hW.mono hb.size))
      have d8 := fun W (hW : Below W5.heap.size W5 W) => c8 W (hb.trans (hW.mono hb.size))
      have d9 := fun W (hW : Below W5.heap.size W5 W) => hA W (hb.trans (hW.mono hb.size))
      have hw0 := Below.refl W5.heap.size W5
      clear c3 c4 c5 c6 c7 c8 hA hE hU b0 b1 g0 g1 g2 k0 k1 k2
      go_region_held3 (fun W' => W'.cell? ⟨w.heap.size, 0, none⟩ = some (.slice A s.types.length ca) ∧ W'.cell? ⟨w.heap.size, 1, none⟩ = some (.slice A' s.classes.length cb) ∧
          W'.cell? ⟨w2.heap.size, 0, none⟩ = some (.string (B tn)) ∧ W'.cell? ⟨w2.heap.size, 1, none⟩ = some (.int .i64 ty) ∧ W'.cell? ⟨w2.heap.size, 2, none⟩ = some (.bool ts) ∧
          W'.cell? ⟨w4.heap.size, 0, none⟩ = some (.string (B tn)) ∧ W'.cell? ⟨w4.heap.size, 1, none⟩ = some (.int .i64 ty) ∧ W'.cell? ⟨w4.heap.size, 2, none⟩ = some (.bool ts) ∧ Below W5.heap.size W5 W')
        (first | (refine hS _ ?_; repeat (first | with_reducible exact Below.refl _ _ | with_reducible apply Below.drew | with_reducible refine Below.on ?_ ha1 | with_reducible refine Below.on ?_ ha2 | with_reducible refine Below.on ?_ ha3 | with_reducible refine Below.on ?_ ha4 | with_reducible refine Below.on ?_ ha5 | with_reducible refine Below.on ?_ ha6 | with_reducible refine Below.on ?_ ha7 | with_reducible refine Below.on ?_ ha8 | with_reducible refine Below.on ?_ ha9 | with_reducible refine Below.on ?_ ha10)))
        (first
          | (go_at_call 12; refine (d3 _ (by repeat (first | with_reducible exact Below.refl _ _ | with_reducible apply Below.drew))).mono ?_; rintro e x1 ⟨v1, rfl, o1, ha1⟩; have r1 := StrsV.of_own (l := q1) o1; obtain ⟨A1, z1, hz1⟩ := own_shape o1; subst hz1)
          | (go_at_call 13; refine (d4 _ (by repeat (first | with_reducible exact Below.refl _ _ | with_reducible apply Below.drew | with_reducible refine Below.on ?_ ha1))).mono ?_; rintro e x2 ⟨v2, rfl, o2, ha2⟩; have r2 := StrsV.of_own (l := q1) o2; obtain ⟨A2, z2, hz2⟩ := own_shape o2; subst hz2)
          | (go_at_call 11; with_reducible refine (hLi q1 l1 _ _ _ (SlV.mono (SlV.keep r1 ha2) ha2.size) r2).mono ?_; rintro e x3 ⟨rfl, ha3⟩)
          | (go_at_call 14; refine (d5 _ (by repeat (first | with_reducible exact Below.refl _ _ | with_reducible apply Below.drew | with_reducible refine Below.on ?_ ha1 | with_reducible refine Below.on ?_ ha2 | with_reducible refine Below.on ?_ ha3))).mono ?_; rintro e x4 ⟨v4, rfl, o4, ha4⟩; have r4 := StrsV.of_own (l := q2) o4; obtain ⟨A4, z4, hz4⟩ := own_shape o4; subst hz4)
          | (go_at_call 15; refine (d6 _ (by repeat (first | with_reducible exact Below.refl _ _ | with_reducible apply Below.drew | with_reducible refine Below.on ?_ ha1 | with_reducible refine Below.on ?_ ha2 | with_reducible refine Below.on ?_ ha3 | with_reducible refine Below.on ?_ ha4))).mono ?_; rintro e x5 ⟨v5, rfl, o5, ha5⟩; have r5 := StrsV.of_own (l := q2) o5; obtain ⟨A5, z5, hz5⟩ := own_shape o5; subst hz5)
          | (go_at_call 11; with_reducible refine (hLi q2 l2 _ _ _ (SlV.mono (SlV.keep r4 ha5) ha5.size) r5).mono ?_; rintro e x6 ⟨rfl, ha6⟩)
          | (go_at_call 16; refine (d7 _ (by repeat (first | with_reducible exact Below.refl _ _ | with_reducible apply Below.drew | with_reducible refine Below.on ?_ ha1 | with_reducible refine Below.on ?_ ha2 | with_reducible refine Below.on ?_ ha3 | with_reducible refine Below.on ?_ ha4 | with_reducible refine Below.on ?_ ha5 | with_reducible refine Below.on ?_ ha6))).mono ?_; rintro e x7 ⟨v7, rfl, o7, ha7⟩; have r7 := StrsV.of_own (l := q3) o7; obtain ⟨A7, z7, hz7⟩ := own_shape o7; subst hz7)
          | (go_at_call 17; refine (d8 _ (by repeat (first | with_reducible exact Below.refl _ _ | with_reducible apply Below.drew | with_reducible refine Below.on ?_ ha1 | with_reducible refine Below.on ?_ ha2 | with_reducible refine Below.on ?_ ha3 | with_reducible refine Below.on ?_ ha4 | with_reducible refine Below.on ?_ ha5 | with_reducible refine Below.on ?_ ha6 | with_reducible refine Below.on ?_ ha7))).mono ?_; rintro e x8 ⟨v8, rfl, o8, ha8⟩; have r8 := StrsV.of_own (l := q3) o8; obtain ⟨A8, z8, hz8⟩ := own_shape o8; subst hz8)
          | (go_at_call 11; with_reducible refine (hLi q3 l3 _ _ _ (SlV.mono (SlV.keep r7 ha8) ha8.size) r8).mono ?_; rintro e x9 ⟨rfl, ha9⟩)
          | (go_at_call 6; refine (d9 _ (by repeat (first | with_reducible exact Below.refl _ _ | with_reducible apply Below.drew | with_reducible refine Below.on ?_ ha1 | with_reducible refine Below.on ?_ ha2 | with_reducible refine Below.on ?_ ha3 | with_reducible refine Below.on ?_ ha4 | with_reducible refine Below.on ?_ ha5 | with_reducible refine Below.on ?_ ha6 | with_reducible refine Below.on ?_ ha7 | with_reducible refine Below.on ?_ ha8 | with_reducible refine Below.on ?_ ha9))).mono ?_; rintro e x10 ⟨rfl, ha10⟩))
      all_goals
        have hfin : Below W5.heap.size W5 x10 := by repeat (first | with_reducible exact Below.refl _ _ | with_reducible apply Below.drew | with_reducible refine Below.on ?_ ha1 | with_reducible refine Below.on ?_ ha2 | with_reducible refine Below.on ?_ ha3 | with_reducible refine Below.on ?_ ha4 | with_reducible refine Below.on ?_ ha5 | with_reducible refine Below.on ?_ ha6 | with_reducible refine Below.on ?_ ha7 | with_reducible refine Below.on ?_ ha8 | with_reducible refine Below.on ?_ ha9 | with_reducible refine Below.on ?_ ha10)
        go_wp2_with fail
        go_ret
        exact ⟨rfl, hb.trans (hfin.mono hb.size)⟩
end Go.Proofs.YtoelhiccofpgfaaGreatDoor
