/- Part 42 of the proof that what Parse reads of a class's description is what the text says, and what it writes Parse reads back: the package variables hold what the program lays; nothing else is asked. -/
import Derived.Test.YtnikolglippfmaaGreatDoorTxs32
import Derived.Test.YtnikolglippfmaaGreatDoorTxs41
/- identityref07: typeLine. -/
namespace Go.Proofs.YtnikolglippfmaaGreatDoor
open Go.RowKit Go.Sort
open Idn (L B Bs drop_L take_L size_L)
theorem tl5_of_bad {ws : List Bs} (h : (decide (ws.length ≠ 3) && !isSingle ws) = true) : tl5 ws = (⟨[], 0, false⟩, false) := by
  unfold tl5
  split
  · exact rdType_bad h
  · rfl
theorem tl5_noname {ws : List Bs} (h : Idn.name (ws.getD 1 []) = false) : tl5 ws = (⟨[], 0, false⟩, false) := by
  unfold tl5
  split
  · exact rdType_noname h
  · rfl
theorem zero_ty {w w' W : World} {r : Idn.AT × Bool} (h : r = (⟨[], 0, false⟩, false)) (hb : Below w.heap.size w w') :
    (Ending.returned (.tuple #[.agg #[.string ⟨#[]⟩, .int .i64 0, .bool false], .bool false]) = .returned (.tuple #[tyV r.1, .bool r.2])) ∧ Below w.heap.size w (((w'.setCell ⟨w.heap.size, 0, none⟩ (.string ⟨#[]⟩)).setCell ⟨w.heap.size, 1, none⟩ (.int .i64 0)).setCell ⟨w.heap.size, 2, none⟩ (.bool false)) := by
  subst h
  exact ⟨rfl, ((hb.setCell (by simp) _).setCell (by simp) _).setCell (by simp) _⟩
set_option maxHeartbeats 4000000 in
set_option maxRecDepth 100000 in
theorem r_typeLine_any (v : Value) (ws : List Bs) (w : World) (hv : StrsV w w.heap.size v ws) (hws : ∀ x ∈ ws, x.length ≤ 1000000000) (hwl : ws.length ≤ 1000000000) :
    Calls Tryz.prog 67 #[v] w fun e w' => e = .returned (.tuple #[tyV (tl5 ws).1, .bool (tl5 ws).2]) ∧ Below w.heap.size w w' := by
  obtain ⟨A, c, rfl, hc⟩ := hv.shape
  generalize hrr : tl5 ws = r
  have HR : Hid (r = tl5 ws) := hrr.symm
  clear hrr
  by_cases hA : ws.length ≠ 3 ∧ ws.length ≠ 4
  · have HF : Hid (r = (⟨[], 0, false⟩, false)) := by
      show _ = _
      rw [HR.out]
      refine tl5_of_bad ?_
      have : isSingle ws = false := by unfold isSingle; rw [decide_eq_false hA.2]; rfl
      rw [this, decide_eq_true hA.1]; rfl
    have e3 : ((ws.length : Int) != 3) = true := by rw [bne_iff_ne]; omega
    have e4 : ((ws.length : Int) != 4) = true := by rw [bne_iff_ne]; omega
    clear HR hA hv hws
    go_enter Tryz.func67, Tryz.ntmps67
    go_upto_region 1 with fail
    with_reducible refine gen1 (R := fun W => Code.wp Tryz.prog _ _ _ W) ?_
    intro W hbW hszW hc1 hf1
    have r0 := hc1 0 _ rfl
    have r1 := hc1 1 _ rfl
    have r2 := hc1 2 _ rfl
    have f0 := hf1 0
    have f1 := hf1 1
    have f2 := hf1 2
    clear hc1 hf1 hszW
    go_wp2
    exact bodyPost_ret (v := .tuple #[.agg #[.string ⟨#[]⟩, .int .i64 0, .bool false], .bool false]) (by simp [results, Tryz.results67, go_sem, r0, r1, r2, f0, f1, f2]) rfl (zero_ty (W := W) HF.out hbW)
  · have hn34 : ws.length = 3 ∨ ws.length = 4 := by omega
    clear hA
    obtain ⟨x0, x1, x2, y, hw⟩ : ∃ x0 x1 x2 y, ws = x0 :: x1 :: x2 :: y := by
      match ws, hn34 with
      | [], h => simp at h
      | [_], h => simp at h
      | [_, _], h => simp at h
      | a :: b :: d :: y, _ => exact ⟨a, b, d, y, rfl⟩
    have q0 : ws[0]? = some x0 := by rw [hw]; rfl
    have q1 : ws[1]? = some x1 := by rw [hw]; rfl
    have q2 : ws[2]? = some x2 := by rw [hw]; rfl
    have g1 : ws.getD 1 [] = x1 := by rw [hw]; rfl
    have g2 : ws.getD 2 [] = x2 := by rw [hw]; rfl
    have gh : ws.headD [] = x0 := by rw [hw]; rfl
    obtain ⟨b, off, rfl, hbl, c0⟩ := strs_at hv q0
    obtain ⟨b', off', hA1, _, c1⟩ := strs_at hv q1
    injection hA1 with hA1
    injection hA1 with e1 e2
    subst e1 e2
    obtain ⟨b', off', hA1, _, c2⟩ := strs_at hv q2
    injection hA1 with hA1
    injection hA1 with e1 e2
    subst e1 e2
    rw [Nat.add_zero] at c0
    have hx1 := hws x1 (List.mem_of_getElem? q1)
    have hN := fun W => r_name_any (B x1) W (by rw [Idn.size_B]; omega)
    rw [Idn.L_B] at hN
    have hsg : (ws.length = 3 ∧ isSingle ws = false) ∨ (ws.length = 4 ∧ ∃ x3, ws[3]? = some x3 ∧ isSingle ws = decide (x3 = [115, 105, 110, 103, 108, 101])) := by
      rcases hn34 with h | h
      · exact .inl ⟨h, by unfold isSingle; rw [h]; rfl⟩
      · refine .inr ⟨h, ws[3]'(by omega), List.getElem?_eq_getElem (by omega), ?_⟩
        unfold isSingle
        rw [List.getElem?_eq_getElem (by omega), decide_eq_true h, Bool.true_and]
        simp
    have c3 : ∀ x3, ws[3]? = some x3 → w.cell? ⟨b, off + 3, none⟩ = some (.string (B x3)) := fun x3 h3 => by
      obtain ⟨b', off', hA1, _, c3⟩ := strs_at hv h3
      injection hA1 with hA1
      injection hA1 with e1 e2
      subst e1 e2
      exact c3
    have HTL : Hid (isSingle ws = true ∨ ws.length = 3 → x0 = wType → Idn.name x1 = true → r = match wordIx x2 with | none => (⟨[], 0, false⟩, false) | some x => (⟨x1, x, isSingle ws⟩, true)) := fun h1 h2 h3 => by
      have hc9 : ¬ (((decide (ws.length ≠ 3) && !isSingle ws) || !Idn.name x1) = true) := by
        rw [h3]
        rcases h1 with h1 | h1
        · rw [h1]; simp
        · rw [h1]; simp
      rw [HR.out, tl5_yes (gh.trans h2), rdType, g1, g2, if_neg hc9]
      cases wordIx x2 <;> rfl
    have HB1 : Hid (isSingle ws = false → ws.length = 4 → r = (⟨[], 0, false⟩, false)) := fun h1 h2 => by
      rw [HR.out]; exact tl5_of_bad (by rw [h1, h2]; rfl)
    have HB2 : Hid (x0 ≠ wType → r = (⟨[], 0, false⟩, false)) := fun h1 => by
      rw [HR.out]; exact tl5_no (fun e => h1 (gh.symm.trans e))
    have HB3 : Hid (Idn.name x1 = false → r = (⟨[], 0, false⟩, false)) := fun h1 => by
      rw [HR.out]; exact tl5_noname (by rw [g1]; exact h1)
    clear HR q0 q1 q2 g1 g2 gh hw hws hx1 hv
    -- the four ways that end at once, and the loop
    have hway : (∃ sg : Bool, ((ws.length = 3 ∧ sg = false) ∨ (ws.length = 4 ∧ sg = true ∧ w.cell? ⟨b, off + 3, none⟩ = some (.string (B [115, 105, 110, 103, 108, 101])))) ∧ isSingle ws = sg) ∨ (ws.length = 4 ∧ isSingle ws = false ∧ ∃ x3, w.cell? ⟨b, off + 3, none⟩ = some (.string (B x3)) ∧ x3 ≠ [115, 105, 110, 103, 108, 101]) := by
      rcases hsg with ⟨h1, h2⟩ | ⟨h1, x3, h2, h3⟩
      · exact .inl ⟨false, .inl ⟨h1, rfl⟩, h2⟩
      · by_cases he : x3 = [115, 105, 110, 103, 108, 101]
        · exact .inl ⟨true, .inr ⟨h1, rfl, by rw [← he]; exact c3 x3 h2⟩, by rw [h3]; exact decide_eq_true he⟩
        · exact .inr ⟨h1, by rw [h3]; exact decide_eq_false he, x3, c3 x3 h2, he⟩
    clear hsg c3 hn34
    rcases hway with ⟨sg, hl, hs⟩ | ⟨h4, hs, x3, d3, hne⟩
    · have hlI : ((ws.length : Int) == 4) = sg := by
        rcases hl with ⟨h, rfl⟩ | ⟨h, rfl, _⟩ <;> rw [h] <;> rfl
      by_cases h0 : x0 = wType
      · cases hnm : Idn.name x1
        · have HF : Hid (r = (⟨[], 0, false⟩, false)) := HB3.out hnm
          rw [hnm] at hN
          have t0 : ((B x0).toList == [116, 121, 112, 101]) = true := by rw [toList_L, Idn.L_B, h0]; rfl
          have hn1 : (1 : Int) < (ws.length : Int) := by rcases hl with ⟨h, _⟩ | ⟨h, _⟩ <;> omega
          have hn0 : (0 : Int) < (ws.length : Int) := by omega
          clear HTL HB1 HB2 HB3 h0 hs hlI hnm
          rcases hl with ⟨h3, rfl⟩ | ⟨h4, rfl, d3⟩
          · have e3 : ((ws.length : Int) != 3) = false := by rw [h3]; rfl
            clear h3
            go_enter Tryz.func67, Tryz.ntmps67
            go_upto_region 1 with fail
            with_reducible refine gen1 (R := fun W => Code.wp Tryz.prog _ _ _ W) ?_
            intro W hbW hszW hc1 hf1
            have r0 := hc1 0 _ rfl
            have r1 := hc1 1 _ rfl
            have r2 := hc1 2 _ rfl
            have f0 := hf1 0
            have f1 := hf1 1
            have f2 := hf1 2
            replace c0 := cell_later hbW c0
            replace c1 := cell_later hbW c1
            clear hc1 hf1 hszW
            go_wp2_with (go_at_call 100; refine (hN _).mono ?_; rintro e w2 ⟨rfl, rfl⟩)
            exact bodyPost_ret (v := .tuple #[.agg #[.string ⟨#[]⟩, .int .i64 0, .bool false], .bool false]) (by simp [results, Tryz.results67, go_sem, r0, r1, r2, f0, f1, f2]) rfl (zero_ty (W := W) HF.out hbW)
          · have e3 : ((ws.length : Int) != 3) = true := by rw [h4]; rfl
            have e4 : ((ws.length : Int) != 4) = false := by rw [h4]; rfl
            have h3I : (3 : Int) < (ws.length : Int) := by omega
            have t3 : ((B [115, 105, 110, 103, 108, 101]).toList == [115, 105, 110, 103, 108, 101]) = true := by rw [toList_L, Idn.L_B]; rfl
            clear h4
            go_enter Tryz.func67, Tryz.ntmps67
            go_upto_region 1 with fail
            with_reducible refine gen1 (R := fun W => Code.wp Tryz.prog _ _ _ W) ?_
            intro W hbW hszW hc1 hf1
            have r0 := hc1 0 _ rfl
            have r1 := hc1 1 _ rfl
            have r2 := hc1 2 _ rfl
            have f0 := hf1 0
            have f1 := hf1 1
            have f2 := hf1 2
            replace c0 := cell_later hbW c0
            replace c1 := cell_later hbW c1
            replace d3 := cell_later hbW d3
            clear hc1 hf1 hszW
            go_wp2_with (go_at_call 100; refine (hN _).mono ?_; rintro e w2 ⟨rfl, rfl⟩)
            exact bodyPost_ret (v := .tuple #[.agg #[.string ⟨#[]⟩, .int .i64 0, .bool false], .bool false]) (by simp [results, Tryz.results67, go_sem, r0, r1, r2, f0, f1, f2]) rfl (zero_ty (W := W) HF.out hbW)
        · have HF : Hid (r = match wordIx x2 with | none => (⟨[], 0, false⟩, false) | some x => (⟨x1, x, sg⟩, true)) := by
            show _ = _
            rw [← hs]
            refine HTL.out ?_ h0 hnm
            rcases hl with ⟨h3, rfl⟩ | ⟨h4, rfl, d3⟩
            · exact .inr h3
            · exact .inl hs
          rw [hnm] at hN
          have t0 : ((B x0).toList == [116, 121, 112, 101]) = true := by rw [toList_L, Idn.L_B, h0]; rfl
          clear HTL HB1 HB2 HB3 h0 hs hnm
          have hl3 : ((ws.length : Int) != 3) = false ∨ (((ws.length : Int) != 3) = true ∧ ((ws.length : Int) != 4) = false ∧ (3 : Int) < (ws.length : Int) ∧ w.cell? ⟨b, off + 3, none⟩ = some (.string (B [115, 105, 110, 103, 108, 101]))) := by
            rcases hl with ⟨h3, _⟩ | ⟨h4, _, d3⟩
            · exact .inl (by rw [h3]; rfl)
            · exact .inr ⟨by rw [h4]; rfl, by rw [h4]; rfl, by omega, d3⟩
          have t3 : ((B [115, 105, 110, 103, 108, 101]).toList == [115, 105, 110, 103, 108, 101]) = true := by rw [toList_L, Idn.L_B]; rfl
          have hn2 : (2 : Int) < (ws.length : Int) := by rcases hl with ⟨h, _⟩ | ⟨h, _⟩ <;> omega
          have hn1 : (1 : Int) < (ws.length : Int) := by omega
          have hn0 : (0 : Int) < (ws.length : Int) := by omega
          clear hl
          rcases hl3 with e3 | ⟨e3, e4, h3I, d3⟩
          all_goals
            go_enter Tryz.func67, Tryz.ntmps67
            go_upto_region 1 with fail
            with_reducible refine gen1 (R := fun W => Code.wp Tryz.prog _ _ _ W) ?_
            intro W hbW hszW hc1 hf1
            have r0 := hc1 0 _ rfl
            have r1 := hc1 1 _ rfl
            have r2 := hc1 2 _ rfl
            have f0 := hf1 0
            have f1 := hf1 1
            have f2 := hf1 2
            replace c0 := cell_later hbW c0
            replace c1 := cell_later hbW c1
            replace c2 := cell_later hbW c2
            try replace d3 := cell_later hbW d3
            have hltW : w.heap.size < W.heap.size := by omega
            clear hc1 hf1 hszW
            go_wp2_with (go_at_call 100; refine (hN _).mono ?_; rintro e w2 ⟨rfl, rfl⟩)
            clear hN c0
            go_loopw [4] (fun i wr => ∃ k : Int, 1 ≤ k ∧ k ≤ 6 ∧ i = .int .i64 k ∧ Below W.heap.size W wr ∧ Hid (∀ j : Int, 1 ≤ j → j < k → Idn.word j ≠ x2)) (fun i _ => (10 - intOf i).toNat)
            case atStart => exact ⟨1, by omega, by omega, rfl, Below.refl _ _, fun j h1 h2 => by omega⟩
            case round =>
              obtain ⟨k, hk1, hk6, rfl, hb, hno⟩ := hrel
              have m1 := cell_later hb c1
              have m2 := cell_later hb c2
              have k2 := cell_regrown m2
              by_cases hk5 : k ≤ 5
              · have hq := cq (W := wr) (fun W' _ => r_word_any k hk1 hk5 W')
                by_cases hw : Idn.word k = x2
                · have HG : Hid (r = (⟨x1, k, sg⟩, true)) := by show _ = _; rw [HF.out, wordIx_some hk1 hk5 hno.out hw]
                  have tk : ((B x2).toList == (B (Idn.word k)).toList) = true := str_is (by rw [Idn.L_B, Idn.L_B, hw])
                  clear hw hno HF
                  generalize B (Idn.word k) = bw at *
                  go_wp2
                  refine wp_region_quiet_below (by kernel_rfl) (by kernel_rfl) ?_
                  repeat (first | go_big_quiet_step ((go_at_call 62; exact hq _ _)) | quiet_step ((go_at_call 62; exact hq _ _)))
                  refine wpQuiet_nil ?_
                  intro _ hw'
                  obtain ⟨⟨dq, osq⟩, hw''⟩ := hw'
                  subst hw''
                  have hb2 := below_regrown wr dq osq
                  generalize grow (redrawn wr dq) osq = W2 at hb2 ⊢
                  have hbt := hb.trans (hb2.mono hb.size)
                  replace m1 := cell_later hb2 m1
                  have R0 := cell_later hbt r0
                  have R1 := cell_later hbt r1
                  have R2 := cell_later hbt r2
                  have G0 := (hbt.frozen (p := ⟨w.heap.size, 0, none⟩) hltW).trans f0
                  have G1 := (hbt.frozen (p := ⟨w.heap.size, 1, none⟩) hltW).trans f1
                  have G2 := (hbt.frozen (p := ⟨w.heap.size, 2, none⟩) hltW).trans f2
                  clear hq k2 m2
                  go_wp2
                  exact bodyPost_ret (v := .tuple #[.agg #[.string (B x1), .int .i64 k, .bool sg], .bool true]) (by simp [results, Tryz.results67, go_sem, R0, R1, R2, G0, G1, G2]) rfl ⟨by rw [HG.out]; rfl, (((hbW.trans (hbt.mono hbW.size)).setCell (by simp) _).setCell (by simp) _).setCell (by simp) _⟩
                · have HN : Hid (∀ j : Int, 1 ≤ j → j < k + 1 → Idn.word j ≠ x2) := fun j h1 h2 => by
                    by_cases e : j = k
                    · rw [e]; exact hw
                    · exact hno.out j h1 (by omega)
                  have tk : ((B x2).toList == (B (Idn.word k)).toList) = false := str_not (by rw [Idn.L_B, Idn.L_B]; exact fun e => hw e.symm)
                  clear hw hno
                  generalize B (Idn.word k) = bw at *
                  go_wp2
                  refine wp_region_quiet_below (by kernel_rfl) (by kernel_rfl) ?_
                  repeat (first | go_big_quiet_step ((go_at_call 62; exact hq _ _)) | quiet_step ((go_at_call 62; exact hq _ _)))
                  refine wpQuiet_nil ?_
                  intro _ hw'
                  obtain ⟨⟨dq, osq⟩, hw''⟩ := hw'
                  subst hw''
                  have hb2 := below_regrown wr dq osq
                  generalize grow (redrawn wr dq) osq = W2 at hb2 ⊢
                  clear hq k2 m2 m1
                  go_wp2
                  go_roundw
                  case rel => exact ⟨k + 1, by omega, by omega, rfl, hb.trans (hb2.mono hb.size), HN⟩
                  case measure => simp [intOf]; omega
              · have e : k = 6 := by omega
                subst e
                have HG : Hid (r = (⟨[], 0, false⟩, false)) := by show _ = _; rw [HF.out, wordIx_none hno.out]
                have R0 := cell_later hb r0
                have R1 := cell_later hb r1
                have R2 := cell_later hb r2
                have G0 := (hb.frozen (p := ⟨w.heap.size, 0, none⟩) hltW).trans f0
                have G1 := (hb.frozen (p := ⟨w.heap.size, 1, none⟩) hltW).trans f1
                have G2 := (hb.frozen (p := ⟨w.heap.size, 2, none⟩) hltW).trans f2
                clear HF hno hk5 m1 m2 k2
                go_wp2
                exact bodyPost_ret (v := .tuple #[.agg #[.string ⟨#[]⟩, .int .i64 0, .bool false], .bool false]) (by simp [results, Tryz.results67, go_sem, R0, R1, R2, G0, G1, G2]) rfl (zero_ty (W := W) HG.out (hbW.trans (hb.mono hbW.size)))
      · have HF : Hid (r = (⟨[], 0, false⟩, false)) := HB2.out h0
        have t0 : ((B x0).toList == [116, 121, 112, 101]) = false := by rw [toList_L, Idn.L_B, beq_eq_false_iff_ne]; exact h0
        have hl3 : ((ws.length : Int) != 3) = false ∨ (((ws.length : Int) != 3) = true ∧ ((ws.length : Int) != 4) = false ∧ (3 : Int) < (ws.length : Int) ∧ w.cell? ⟨b, off + 3, none⟩ = some (.string (B [115, 105, 110, 103, 108, 101]))) := by
          rcases hl with ⟨h3, _⟩ | ⟨h4, _, d3⟩
          · exact .inl (by rw [h3]; rfl)
          · exact .inr ⟨by rw [h4]; rfl, by rw [h4]; rfl, by omega, d3⟩
        have t3 : ((B [115, 105, 110, 103, 108, 101]).toList == [115, 105, 110, 103, 108, 101]) = true := by rw [toList_L, Idn.L_B]; rfl
        have hn0 : (0 : Int) < (ws.length : Int) := by rcases hl with ⟨h, _⟩ | ⟨h, _⟩ <;> omega
        clear hl HTL HB1 HB2 HB3 h0 hs hN
        rcases hl3 with e3 | ⟨e3, e4, h3I, d3⟩
        all_goals
          go_enter Tryz.func67, Tryz.ntmps67
          go_upto_region 1 with fail
          with_reducible refine gen1 (R := fun W => Code.wp Tryz.prog _ _ _ W) ?_
          intro W hbW hszW hc1 hf1
          have r0 := hc1 0 _ rfl
          have r1 := hc1 1 _ rfl
          have r2 := hc1 2 _ rfl
          have f0 := hf1 0
          have f1 := hf1 1
          have f2 := hf1 2
          replace c0 := cell_later hbW c0
          try replace d3 := cell_later hbW d3
          clear hc1 hf1 hszW
          go_wp2
          exact bodyPost_ret (v := .tuple #[.agg #[.string ⟨#[]⟩, .int .i64 0, .bool false], .bool false]) (by simp [results, Tryz.results67, go_sem, r0, r1, r2, f0, f1, f2]) rfl (zero_ty (W := W) HF.out hbW)
    · have HF : Hid (r = (⟨[], 0, false⟩, false)) := HB1.out hs h4
      have e3 : ((ws.length : Int) != 3) = true := by rw [h4]; rfl
      have e4 : ((ws.length : Int) != 4) = false := by rw [h4]; rfl
      have h3I : (3 : Int) < (ws.length : Int) := by omega
      have t3 : ((B x3).toList == [115, 105, 110, 103, 108, 101]) = false := by rw [toList_L, Idn.L_B, beq_eq_false_iff_ne]; exact hne
      clear HTL HB1 HB2 HB3 hs hN h4 hne c0 c1 c2
      go_enter Tryz.func67, Tryz.ntmps67
      go_upto_region 1 with fail
      with_reducible refine gen1 (R := fun W => Code.wp Tryz.prog _ _ _ W) ?_
      intro W hbW hszW hc1 hf1
      have r0 := hc1 0 _ rfl
      have r1 := hc1 1 _ rfl
      have r2 := hc1 2 _ rfl
      have f0 := hf1 0
      have f1 := hf1 1
      have f2 := hf1 2
      replace d3 := cell_later hbW d3
      clear hc1 hf1 hszW
      go_wp2
      exact bodyPost_ret (v := .tuple #[.agg #[.string ⟨#[]⟩, .int .i64 0, .bool false], .bool false]) (by simp [results, Tryz.results67, go_sem, r0, r1, r2, f0, f1, f2]) rfl (zero_ty (W := W) HF.out hbW)
end Go.Proofs.YtnikolglippfmaaGreatDoor
