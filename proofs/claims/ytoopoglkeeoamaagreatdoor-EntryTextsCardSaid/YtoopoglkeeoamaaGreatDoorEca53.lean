/- Part 53 of the proof that the statements EntryChecks, EntryStable and EntryTexts of identitylaw08 return true at every argument: the package variables hold what the program lays; nothing else is asked. -/
import Derived.Test.YtoopoglkeeoamaaGreatDoorEca08
import Derived.Test.YtoopoglkeeoamaaGreatDoorEca43
import Derived.Test.YtoopoglkeeoamaaGreatDoorEca45
import Derived.Test.YtoopoglkeeoamaaGreatDoorEca52
set_option linter.unusedVariables false
set_option linter.unusedSimpArgs false
/- identityref08: Text. -/
namespace Go.Proofs.YtoopoglkeeoamaaGreatDoor
open Go.RowKit Go.Sort
open Idn (L B Bs drop_L take_L size_L)
theorem text_sm {n : Bs} {l : List Idn.Att} (h : eCheck n l = 0) : (∀ a ∈ Idn.aSorted l, a.name.length ≤ 64 ∧ a.vals.length ≤ 1000 ∧ ∀ x ∈ a.vals, x.length ≤ 256) ∧ (Idn.aSorted l).length ≤ 32 ∧ Idn.rSorted l = Idn.aSorted l := by
  have hac := eCheck_zero h
  obtain ⟨hl32, hv16⟩ := aCheck_zero hac
  refine ⟨fun a ha => ?_, ?_, Idn.rSorted_eq fun a ha => (hv16 a ha).1⟩
  · obtain ⟨b, hb, rfl⟩ := Idn.aSorted_from ha
    have h1 := Idn.grp_le 16 l [] 0 (by simp) (fun a ha => (hv16 a ha).2) b hb
    have h2 := Idn.grp_all (p := fun x => x.length ≤ 256) l [] (by simp) (fun a ha x hx => clean_len (aCheck_clean hac a ha x hx)) b hb
    have h3 := Lib.compact_length_le (Idn.srt b.vals)
    have h4 : (Idn.srt b.vals).length = b.vals.length := by simp [Idn.srt]
    refine ⟨?_, ?_, fun x hx => h2 x (Idn.srt_mem (compact_mem hx))⟩
    · have hn : b.name ∈ (Idn.grp [] l).map (·.name) := List.mem_map.2 ⟨b, hb, rfl⟩
      rw [Idn.grp_names] at hn
      rcases hn with hn | hn
      · simp at hn
      · obtain ⟨a, ha, e⟩ := List.mem_map.1 hn
        show b.name.length ≤ _
        rw [← e, Idn.length_lower]
        exact name_len ((Idn.aCheck_all hac).2.2 a ha).1
    · show (Lib.compact (Idn.srt b.vals)).length ≤ _
      have : l.length * 16 ≤ 32 * 16 := Nat.mul_le_mul_right _ hl32
      omega
  · have h1 := aSorted_len l
    have h2 := grp_len l []
    simp at h2
    omega
set_option maxHeartbeats 4000000 in
set_option maxRecDepth 100000 in
theorem r8_Text_any (n : ByteArray) (a : Value) (l : List Idn.Att) (w : World) (hv : AttsV w w.heap.size a l) (hn : n.size ≤ 1000000000) (hs : ASm l) :
    Calls Tryz.prog 24 #[.agg #[.string n, a]] w fun e w' => e = .returned (.tuple #[.string (B (eText (L n) l).1), .int .i64 (eText (L n) l).2]) ∧ Below w.heap.size w w' := by
  have hA := fun W (hW : Below w.heap.size w W) => AttsV.mono (AttsV.keep hv hW) hW.size
  have hC := fun W (hW : Below w.heap.size w W) => r8_Check_any n a l W (hA W hW) hn hs
  have hSo := fun h7 W (hW : Below w.heap.size w W) => r_Sorted_any a l W (hA W hW) h7
  have hEs := fun W => r2_escape_any n W hn
  have HR := Lib.hid (eText_unf (L n) l)
  have hck := fun h => (⟨eCheck_zero (n := L n) (l := l) h, text_sm h⟩ : _ ∧ _)
  obtain ⟨A, c, rfl, hc⟩ := SlV.shape hv
  generalize eText (L n) l = r at *
  generalize eCheck (L n) l = k0 at *
  clear hA hv
  go_enter Tryz.func24, Tryz.ntmps24
  go_upto_region 1 with fail
  with_reducible refine gen1 (R := fun W => Code.wp Tryz.prog _ _ _ W) ?_
  intro W hbW hszW hc1 _
  have a0 : W.cell? ⟨w.heap.size, 0, none⟩ = some (.string n) := hc1 0 _ rfl
  have a1 : W.cell? ⟨w.heap.size, 1, none⟩ = some (.slice A l.length c) := hc1 1 _ rfl
  clear hc1
  go_wp2_with fail
  refine (hC W hbW).mono ?_
  rintro e w1 ⟨rfl, hb1⟩
  have hbw1 := hbW.trans (hb1.mono hbW.size)
  by_cases hk0 : k0 = 0
  case neg =>
    have hI : (k0 != 0) = true := by simpa using hk0
    have HF : Hid (r = ([], k0)) := by show _ = _; rw [HR.out, if_pos hI]
    clear HR hC hSo hEs hck hk0
    go_wp2_with fail
    go_ret2
    exact ⟨by rw [HF.out]; rfl, hbw1⟩
  subst hk0
  have HR2 : Hid (r = (eLine entryN (L n) ++ eBody (Idn.aSorted l), 0)) := by show _ = _; rw [HR.out]; rfl
  obtain ⟨hac, hsz, hsl, hrs⟩ := hck rfl
  obtain ⟨hl32, hv16⟩ := aCheck_zero hac
  have h7 : Idn.ASm7 l := ⟨by omega, fun a ha => ⟨(hs.2 a ha).1, by have := (hv16 a ha).2; omega, (hs.2 a ha).2.2⟩⟩
  have hSo2 := hSo h7
  rw [hrs] at hSo2
  replace a0 := cell_later hb1 a0
  replace a1 := cell_later hb1 a1
  have HSZ := Lib.hid hsz
  clear HR hC hck hSo h7 hl32 hv16 hb1 hszW hs hac hrs hsz
  generalize Idn.aSorted l = sl at *
  have el := esc_len (L n)
  have hnL : (L n).length ≤ 1000000000 := by rw [← size_L]; exact hn
  have add1 := fun W => run_add (P := Tryz.prog) (a := [101, 110, 116, 114, 121, 32]) (b := esc (L n)) (s := ⟨#[101, 110, 116, 114, 121, 32]⟩) (t := B (esc (L n))) rfl rfl (by simp; omega) W
  have add2 := fun W => run_add (P := Tryz.prog) (a := [101, 110, 116, 114, 121, 32] ++ esc (L n)) (b := [10]) (s := B ([101, 110, 116, 114, 121, 32] ++ esc (L n))) (t := ⟨#[10]⟩) rfl rfl (by simp; omega) W
  have hline : [101, 110, 116, 114, 121, 32] ++ esc (L n) ++ [10] = eLine entryN (L n) := by unfold eLine entryN; simp
  rw [hline] at add2
  have hll := eLine_len entryN (L n) (by decide) hnL
  clear hline
  generalize [101, 110, 116, 114, 121, 32] ++ esc (L n) = xe at *
  generalize eLine entryN (L n) = l0 at *
  generalize esc (L n) = en at *
  go_wp2_with fail
  refine (hEs w1).mono ?_
  rintro e w3 ⟨rfl, hb3⟩
  replace a1 := cell_later hb3 a1
  have hbw3 := hbw1.trans (hb3.mono hbw1.size)
  clear hEs hb3
  go_wp2_with fail
  refine (hSo2 w3 hbw3).mono ?_
  rintro e w5 ⟨v5, ps5, rfl, hrow5, hps5, hb5⟩
  have hats := hrow5.atts hps5
  obtain ⟨A5, c5, rfl, _⟩ := SlV.shape hats
  have hbw5 := hbw3.trans (hb5.mono hbw3.size)
  have hbd : ∀ k, (eBody (sl.take k)).length ≤ 32000000 := fun k => by
    have h1 := eBody_len (sl.take k) fun a ha => HSZ.out a (List.mem_of_mem_take ha)
    have h2 : (sl.take k).length ≤ 32 := by rw [List.length_take]; omega
    have h3 : (sl.take k).length * 1000000 ≤ 32 * 1000000 := Nat.mul_le_mul_right _ h2
    omega
  clear hSo2 hps5 hrow5 a0 a1 add1 add2 el hb5 hbw3 hbw1
  go_wp2_with fail
  go_loopw [5, 7] (fun sx i wr => ∃ k : Nat, k ≤ sl.length ∧ i = .int .i64 k ∧ sx = .string (B (l0 ++ eBody (sl.take k))) ∧ Below w5.heap.size w5 wr) (fun _ i _ => sl.length - (intOf i).toNat)
  case atStart => exact ⟨0, Nat.zero_le _, rfl, by simp [eBody], Below.refl _ _⟩
  case round =>
    obtain ⟨k, hk, rfl, rfl, hb⟩ := hrel
    by_cases hlt : k < sl.length
    · have hltI : (k : Int) < (sl.length : Int) := by omega
      obtain ⟨y1, y2, y3⟩ := HSZ.out sl[k] (List.getElem_mem hlt)
      have hstep := eBody_take sl k hlt
      have hbk := hbd k
      have hpre : (l0 ++ eBody (sl.take k)).length ≤ 6000000000 := by rw [List.length_append]; omega
      have HPR := Lib.hid (show l0 ++ eBody (sl.take (k + 1)) = (l0 ++ eBody (sl.take k)) ++ eVs sl[k].name sl[k].vals by rw [hstep, List.append_assoc])
      clear hstep hbk
      generalize l0 ++ eBody (sl.take k) = pre at *
      go_wp2_with fail
      go_loopw [5, 8] (fun sx i wi => ∃ j : Nat, j ≤ sl[k].vals.length ∧ i = .int .i64 j ∧ sx = .string (B (pre ++ eVs sl[k].name (sl[k].vals.take j))) ∧ Below w5.heap.size w5 wi) (fun _ i _ => sl[k].vals.length - (intOf i).toNat)
      case atStart => exact ⟨0, Nat.zero_le _, rfl, by simp [eVs], hb⟩
      case round =>
        obtain ⟨j, hj, rfl, rfl, hbi⟩ := hrel
        obtain ⟨wi, hwi⟩ : ∃ wi : World, wi = wr := ⟨_, rfl⟩
        subst hwi
        obtain ⟨bA, oA, vA, hA5, hbA, d0, d1, hvA⟩ := AttsV.cell (AttsV.keep hats hbi) hlt
        subst hA5
        obtain ⟨Av, cv, rfl, _⟩ := SlV.shape hvA
        by_cases hjl : j < sl[k].vals.length
        · have hjI : (j : Int) < (sl[k].vals.length : Int) := by omega
          obtain ⟨bV, oV, hAv, hbV, e0⟩ := StrsV.cell hvA hjl
          subst hAv
          have hxl := y3 sl[k].vals[j] (List.getElem_mem hjl)
          have hel := esc_len sl[k].vals[j]
          have hEs2 := fun W => r2_escape_any (B sl[k].vals[j]) W (by rw [Idn.size_B]; omega)
          simp only [Idn.L_B] at hEs2
          have hvs := eVs_take sl[k].name sl[k].vals j hjl
          have hvl : (eVs sl[k].name (sl[k].vals.take j)).length ≤ 1000000 := by
            have h1 := eVs_len sl[k].name (sl[k].vals.take j) y1 (fun v hv => y3 v (List.mem_of_mem_take hv))
            have h2 : (sl[k].vals.take j).length ≤ 1000 := by rw [List.length_take]; omega
            omega
          have hpl2 : (pre ++ eVs sl[k].name (sl[k].vals.take j)).length ≤ 7000000000 := by rw [List.length_append]; omega
          have HVS := Lib.hid (show pre ++ eVs sl[k].name (sl[k].vals.take (j + 1)) = (((pre ++ eVs sl[k].name (sl[k].vals.take j)) ++ sl[k].name ++ [32]) ++ esc sl[k].vals[j]) ++ [10] by rw [hvs]; unfold eLine; simp)
          have q1 := cq (W := wi) fun W _ => hEs2 W
          have g0 := cell_regrown d0
          have g1 := cell_regrown d1
          have g2 := cell_regrown e0
          have hyn : sl[k].name.length ≤ 64 := y1
          clear hvs hvl hEs2 hbd hats hvA
          generalize pre ++ eVs sl[k].name (sl[k].vals.take j) = p1 at *
          generalize B sl[k].vals[j] = bq at *
          generalize esc sl[k].vals[j] = ev at *
          generalize hqn : sl[k].name = qn at *
          have HQN := Lib.hid hqn
          clear hqn
          have a1 := fun W => run_add (P := Tryz.prog) (a := p1) (b := qn) rfl rfl (by omega) W
          have a2 := fun W => run_add (P := Tryz.prog) (a := p1 ++ qn) (b := [32]) (t := ⟨#[32]⟩) rfl rfl (by simp; omega) W
          have a3 := fun W => run_add (P := Tryz.prog) (a := p1 ++ qn ++ [32]) (b := ev) rfl rfl (by simp; omega) W
          have a4 := fun W => run_add (P := Tryz.prog) (a := p1 ++ qn ++ [32] ++ ev) (b := [10]) (t := ⟨#[10]⟩) rfl rfl (by simp; omega) W
          generalize p1 ++ qn ++ [32] ++ ev ++ [10] = m4 at *
          generalize p1 ++ qn ++ [32] ++ ev = m3 at *
          generalize p1 ++ qn ++ [32] = m2 at *
          generalize p1 ++ qn = m1 at *
          go_wp2
          refine wp_region_quiet_below (by kernel_rfl) (by kernel_rfl) ?_
          repeat (first | go_big_quiet_step ((go_at_call 65; exact q1 _ _)) | quiet_step ((go_at_call 65; exact q1 _ _)))
          refine wpQuiet_nil ?_
          intro _ hw'
          obtain ⟨⟨dq, osq⟩, hw''⟩ := hw'
          subst hw''
          have hb4 := below_regrown wi dq osq
          generalize grow (redrawn wi dq) osq = W4 at hb4 ⊢
          clear q1 g0 g1 g2 a1 a2 a3 a4 d0 d1 e0
          go_wp2_with fail
          go_roundw
          case rel => exact ⟨j + 1, by omega, by go_num, by rw [HVS.out], hbi.trans (hb4.mono hbi.size)⟩
          case measure => simp [intOf]; omega
        · have hjI : ¬ (j : Int) < (sl[k].vals.length : Int) := by omega
          have HVS := Lib.hid (show pre ++ eVs sl[k].name (sl[k].vals.take j) = l0 ++ eBody (sl.take (k + 1)) by rw [HPR.out, List.take_of_length_le (by omega)])
          clear hbd hats hvA
          generalize pre ++ eVs sl[k].name (sl[k].vals.take j) = p1 at *
          go_wp2_with fail
          go_roundw
          case rel => exact ⟨k + 1, by omega, by go_num, by rw [HVS.out], hbi⟩
          case measure => simp [intOf]; omega
    · have hltI : ¬ (k : Int) < (sl.length : Int) := by omega
      have HF : Hid (r = (l0 ++ eBody (sl.take k), 0)) := by show _ = _; rw [HR2.out, List.take_of_length_le (by omega)]
      clear HR2
      generalize l0 ++ eBody (sl.take k) = fin at *
      go_wp2_with fail
      go_ret2
      exact ⟨by rw [HF.out] <;> rfl, hbw5.trans (hb.mono hbw5.size)⟩
end Go.Proofs.YtoopoglkeeoamaaGreatDoor
/- law08: EntryTexts, walked. -/
namespace Go.Proofs.YtoopoglkeeoamaaGreatDoor
open Go.RowKit Go.Sort
open Idn (L B Bs drop_L take_L size_L)
set_option maxHeartbeats 4000000 in
set_option maxRecDepth 100000 in
theorem entryTexts_any (n : ByteArray) (a : Value) (l : List Idn.Att) (w : World) (hv : AttsV w w.heap.size a l) (hal : ALen8 l) (hn : n.size ≤ 9223372036854775807) (hE : Env w) (hU : EnvU w) :
    Calls Tryz.prog 6 #[.agg #[.string n, a]] w fun e w' => e = .returned (.bool true) ∧ Below w.heap.size w w' := by
  have hA := fun W (hW : Below w.heap.size w W) => AttsV.mono (AttsV.keep hv hW) hW.size
  have hS := fun W (hW : Below w.heap.size w W) => short8_any n a l W (hA W hW) hal hn
  have hEx := fun W (hW : Below w.heap.size w W) => example_any W (hE.keep hW) (hU.keep hW)
  have hv0 := hv
  obtain ⟨A, c, rfl, hc⟩ := SlV.shape hv
  clear hE hU
  go_enter Tryz.func6, Tryz.ntmps6
  go_upto_region 1 with fail
  with_reducible refine gen1 (R := fun W => Code.wp Tryz.prog _ _ _ W) ?_
  intro W hbW hszW hc1 _
  have b0 : W.cell? ⟨w.heap.size, 0, none⟩ = some (.string n) := hc1 0 _ rfl
  have b1 : W.cell? ⟨w.heap.size, 1, none⟩ = some (.slice A l.length c) := hc1 1 _ rfl
  clear hc1 hszW
  go_wp2_with fail
  refine (hS W hbW).mono ?_
  rintro e w1 ⟨r, rfl, hr, hb1⟩
  replace b0 := cell_later hb1 b0
  replace b1 := cell_later hb1 b1
  have hb := hbW.trans (hb1.mono hbW.size)
  have HR := Lib.hid hr
  clear hS hb1 hbW hr
  cases r
  · clear HR
    go_wp2_with fail
    refine (hEx w1 hb).mono ?_
    rintro e w2 ⟨rfl, hb2⟩
    go_wp2_with fail
    go_ret
    exact ⟨rfl, hb.trans (hb2.mono hb.size)⟩
  · obtain ⟨hn9, hsm⟩ := HR.out rfl
    have hasm := hsm.sm.1
    have k1 := fun W (hW : Below w.heap.size w W) => eText_any n _ l W (hA W hW) (by omega) hasm
    have k2 := fun W (hW : Below w.heap.size w W) => r8_Text_any n _ l W (hA W hW) (by omega) hasm
    clear hsm hasm hA hv0 HR hn9
    generalize eText (L n) l = r at *
    obtain ⟨t, x⟩ := r
    have t1 : (x == x) = true := by simp
    have t2 : ((B t).toList == (B t).toList) = true := by simp
    dsimp only at k1 k2
    generalize B t = bt at *
    go_wp2_with fail
    refine (k1 w1 hb).mono ?_
    rintro e w2 ⟨rfl, hb2⟩
    replace b0 := cell_later hb2 b0
    replace b1 := cell_later hb2 b1
    have hbw2 := hb.trans (hb2.mono hb.size)
    clear k1
    go_wp2_with fail
    refine (k2 w2 hbw2).mono ?_
    rintro e w3 ⟨rfl, hb3⟩
    have hbw3 := hbw2.trans (hb3.mono hbw2.size)
    clear k2 b0 b1
    go_wp2_with fail
    refine (hEx w3 hbw3).mono ?_
    rintro e w4 ⟨rfl, hb4⟩
    go_wp2_with fail
    go_ret
    exact ⟨rfl, hbw3.trans (hb4.mono hbw3.size)⟩
end Go.Proofs.YtoopoglkeeoamaaGreatDoor
