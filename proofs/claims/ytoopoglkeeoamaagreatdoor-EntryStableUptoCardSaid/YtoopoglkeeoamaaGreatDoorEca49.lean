/- Part 49 of the proof that the statements EntryChecks, EntryStable and EntryTexts of identitylaw08 return true at every argument: the package variables hold what the program lays; nothing else is asked. -/
import Derived.Test.YtoopoglkeeoamaaGreatDoorEca30
import Derived.Test.YtoopoglkeeoamaaGreatDoorEca44
set_option linter.unusedVariables false
set_option linter.unusedSimpArgs false
/- identityref03.Same, identityref06: Same, Equal; identityref08: SameAttrs, Same, Equal. -/
namespace Go.Proofs.YtoopoglkeeoamaaGreatDoor
open Go.RowKit Go.Sort
open Idn (L B Bs drop_L take_L size_L)
set_option maxHeartbeats 2000000 in
set_option maxRecDepth 100000 in
theorem sameA_any (v u : Value) (a b : List Idn.Att) (r : Bool) (hr : r = true ↔ a = b) (w : World) (hv : AttsV w w.heap.size v a) (hu : AttsV w w.heap.size u b) (ha : a.length ≤ 1000000000) (hb : b.length ≤ 1000000000) (hav : ∀ m ∈ a, m.vals.length ≤ 1000000000) (hbv : ∀ m ∈ b, m.vals.length ≤ 1000000000) :
    Calls Tryz.prog 34 #[v, u] w fun e w' => e = .returned (.bool r) ∧ Below w.heap.size w w' := by
  obtain ⟨A, c, rfl, _⟩ := SlV.shape hv
  obtain ⟨A2, c2, rfl, _⟩ := SlV.shape hu
  go_enter Tryz.func34, Tryz.ntmps34
  by_cases h0 : a.length = b.length
  · have h0I : ((a.length : Int) != (b.length : Int)) = false := by rw [h0]; simp
    have H0 := Lib.hid h0
    have HRR := Lib.hid hr
    clear h0 hr
    go_wp2_with fail
    go_loopw [5] (fun i wr => ∃ (k : Nat), k ≤ a.length ∧ i = .int .i64 k ∧ Below w.heap.size w wr ∧ Hid (a.take k = b.take k)) (fun i _ => a.length - (intOf i).toNat)
    case atStart => exact ⟨0, Nat.zero_le _, rfl, Below.refl _ _, rfl⟩
    case round =>
      obtain ⟨k, hk, rfl, hbw, hinv⟩ := hrel
      obtain ⟨wo, hwo⟩ : ∃ wo : World, wo = wr := ⟨_, rfl⟩
      subst hwo
      by_cases hlt : k < a.length
      · have hlt' : k < b.length := by have := H0.out; omega
        obtain ⟨b1, o1, v1, hA, hb1, d1, d2, ds⟩ := AttsV.cell (hv.keep hbw) hlt
        obtain ⟨b2, o2, v2, hA2, hb2, e1, e2, es⟩ := AttsV.cell (hu.keep hbw) hlt'
        subst hA hA2
        obtain ⟨Av, cv, rfl, _⟩ := ds.shape
        obtain ⟨Aw, cw, rfl, _⟩ := es.shape
        have hltI : (k : Int) < (a.length : Int) := by omega
        have hltJ : (k : Int) < (b.length : Int) := by omega
        have ht := B_beq a[k].name b[k].name
        have q0 := fun (rr : Bool) (hrr : rr = true ↔ a[k].vals = b[k].vals) (W : World) (hW : Below wo.heap.size wo W) => sameS_any _ _ a[k].vals b[k].vals rr hrr W (SlV.mono (SlV.keep ds (hW.mono hbw.size)) (hbw.trans (hW.mono hbw.size)).size) (SlV.mono (SlV.keep es (hW.mono hbw.size)) (hbw.trans (hW.mono hbw.size)).size) (hav _ (List.getElem_mem _)) (hbv _ (List.getElem_mem _))
        have k1 := cell_regrown d1
        have k2 := cell_regrown d2
        have l1 := cell_regrown e1
        have l2 := cell_regrown e2
        have hne := get_ne hlt hlt'
        have hte := take_ext hinv.out hlt hlt'
        clear hinv ds es d1 d2 e1 e2
        by_cases hn : a[k].name = b[k].name
        case neg =>
          rw [decide_eq_false hn] at ht
          have HF := Lib.hid (no_true HRR.out (hne fun e => hn (by rw [e])))
          clear hn q0 hne hte
          go_wp2
          refine wp_region_quiet_below (by kernel_rfl) (by kernel_rfl) ?_
          repeat (first | go_big_quiet_step ((fail)) | quiet_step ((fail)))
          refine wpQuiet_nil ?_
          intro _ hw'
          obtain ⟨⟨dq, osq⟩, hw''⟩ := hw'
          subst hw''
          have hb4 := below_regrown wo dq osq
          generalize grow (redrawn wo dq) osq = W4 at hb4 ⊢
          go_wp2_with fail
          go_ret
          exact ⟨ret_bool HF.out.symm, hbw.trans (hb4.mono hbw.size)⟩
        rw [decide_eq_true hn] at ht
        by_cases hs : a[k].vals = b[k].vals
        case neg =>
          have q1 := cq (W := wo) (q0 false ⟨fun h => (by cases h), fun h => absurd h hs⟩)
          have HF := Lib.hid (no_true HRR.out (hne fun e => hs (by rw [e])))
          clear hn q0 hne hte hs
          go_wp2
          refine wp_region_quiet_below (by kernel_rfl) (by kernel_rfl) ?_
          repeat (first | go_big_quiet_step ((go_at_call 39; exact q1 _ _)) | quiet_step ((go_at_call 39; exact q1 _ _)))
          refine wpQuiet_nil ?_
          intro _ hw'
          obtain ⟨⟨dq, osq⟩, hw''⟩ := hw'
          subst hw''
          have hb4 := below_regrown wo dq osq
          generalize grow (redrawn wo dq) osq = W4 at hb4 ⊢
          clear q1
          go_wp2_with fail
          go_ret
          exact ⟨ret_bool HF.out.symm, hbw.trans (hb4.mono hbw.size)⟩
        have q1 := cq (W := wo) (q0 true ⟨fun _ => hs, fun _ => rfl⟩)
        have HF := Lib.hid (hte (att_ext hn hs))
        clear hn q0 hne hte hs
        go_wp2
        refine wp_region_quiet_below (by kernel_rfl) (by kernel_rfl) ?_
        repeat (first | go_big_quiet_step ((go_at_call 39; exact q1 _ _)) | quiet_step ((go_at_call 39; exact q1 _ _)))
        refine wpQuiet_nil ?_
        intro _ hw'
        obtain ⟨⟨dq, osq⟩, hw''⟩ := hw'
        subst hw''
        have hb4 := below_regrown wo dq osq
        generalize grow (redrawn wo dq) osq = W4 at hb4 ⊢
        clear q1
        go_wp2_with fail
        go_roundw
        case rel => exact ⟨k + 1, by omega, by go_num, hbw.trans (hb4.mono hbw.size), HF⟩
        case measure => simp [intOf]; omega
      · have hltI : ¬ (k : Int) < (a.length : Int) := by omega
        have hltJ : ¬ (k : Int) < (b.length : Int) := by have := H0.out; omega
        have HF : Hid (r = true) := HRR.out.2 (by
          have h1 := hinv.out
          have h2 := H0.out
          rwa [List.take_of_length_le (by omega), List.take_of_length_le (by omega)] at h1)
        clear hinv
        go_wp2
        go_ret
        exact ⟨ret_bool HF.out.symm, hbw⟩
  · have h0I : ((a.length : Int) != (b.length : Int)) = true := by rw [bne_iff_ne]; omega
    have HF := Lib.hid (no_true hr fun h => h0 (by rw [h]))
    go_wp2_with fail
    go_ret
    exact ⟨ret_bool HF.out.symm, Below.refl _ _⟩
set_option maxRecDepth 100000 in
theorem r8_Same_any (n m : ByteArray) (a b : Value) (l k : List Idn.Att) (r : Bool) (hr : r = true ↔ L n = L m ∧ l = k) (w : World) (ha : AttsV w w.heap.size a l) (hb : AttsV w w.heap.size b k) (hl : l.length ≤ 1000000000) (hk : k.length ≤ 1000000000) (hlv : ∀ x ∈ l, x.vals.length ≤ 1000000000) (hkv : ∀ x ∈ k, x.vals.length ≤ 1000000000) :
    Calls Tryz.prog 19 #[.agg #[.string n, a], .agg #[.string m, b]] w fun e w' => e = .returned (.bool r) ∧ Below w.heap.size w w' := by
  have hS := fun rr hrr W (hW : Below w.heap.size w W) => sameA_any a b l k rr hrr W (AttsV.mono (AttsV.keep ha hW) hW.size) (AttsV.mono (AttsV.keep hb hW) hW.size) hl hk hlv hkv
  obtain ⟨A, c, rfl, _⟩ := SlV.shape ha
  obtain ⟨A2, c2, rfl, _⟩ := SlV.shape hb
  have ht : (n.toList == m.toList) = decide (L n = L m) := str_beq n m
  go_enter Tryz.func19, Tryz.ntmps19
  go_upto_region 1 with fail
  with_reducible refine gen2 (R := fun W => Code.wp Tryz.prog _ _ _ W) ?_
  intro W hbW hszW hc1 hc2
  have a0 : W.cell? ⟨w.heap.size, 0, none⟩ = some (.string n) := hc1 0 _ rfl
  have a1 : W.cell? ⟨w.heap.size, 1, none⟩ = some (.slice A l.length c) := hc1 1 _ rfl
  have b0 : W.cell? ⟨w.heap.size + 1, 0, none⟩ = some (.string m) := hc2 0 _ rfl
  have b1 : W.cell? ⟨w.heap.size + 1, 1, none⟩ = some (.slice A2 k.length c2) := hc2 1 _ rfl
  clear hc1 hc2 hszW
  by_cases hn : L n = L m
  · rw [decide_eq_true hn] at ht
    have hq := hS r ⟨fun h => (hr.1 h).2, fun h => hr.2 ⟨hn, h⟩⟩ W hbW
    clear hS hr hn
    go_wp2_with fail
    refine hq.mono ?_
    rintro e w1 ⟨rfl, hb1⟩
    go_wp2_with fail
    go_ret
    exact ⟨by first | rfl | (cases r <;> rfl), hbW.trans (hb1.mono hbW.size)⟩
  · rw [decide_eq_false hn] at ht
    have HF := Lib.hid (no_true hr fun h => hn h.1)
    clear hS hr hn
    go_wp2_with fail
    go_ret
    exact ⟨ret_bool HF.out.symm, hbW⟩
end Go.Proofs.YtoopoglkeeoamaaGreatDoor
