/- Part 51 of the proof that laws of identitylaw11 return true at every argument within the bound: the package variables hold what the program lays; nothing else is asked. -/
import Derived.Test.YtgjllfonmgfhgaaGreatDoorIra25
import Derived.Test.YtgjllfonmgfhgaaGreatDoorIra29
import Derived.Test.YtgjllfonmgfhgaaGreatDoorIra36
import Derived.Test.YtgjllfonmgfhgaaGreatDoorIra39
import Derived.Test.YtgjllfonmgfhgaaGreatDoorIra47
import Derived.Test.YtgjllfonmgfhgaaGreatDoorIra48
import Derived.Test.YtgjllfonmgfhgaaGreatDoorIra50
import Derived.ChangeMaps5
set_option linter.unusedVariables false
set_option linter.unusedSimpArgs false
/- Plain laws of identitylaw11: all that IndexAgrees asks. -/
namespace Go.Proofs.YtgjllfonmgfhgaaGreatDoor
open Go.RowKit Go.Sort
open Idn (L B Bs)
theorem nodup_map {α β : Type} {f : α → β} : ∀ {l : List α}, (l.map f).Nodup → ∀ {a b : α}, a ∈ l → b ∈ l → f a = f b → a = b
  | [], _, _, _, h, _, _ => by simp at h
  | x :: l, h, a, b, ha, hb, e => by
    rw [List.map_cons, List.nodup_cons] at h
    rcases List.mem_cons.1 ha with rfl | ha'
    · rcases List.mem_cons.1 hb with rfl | hb'
      · rfl
      · exact absurd (List.mem_map.2 ⟨b, hb', e.symm⟩) h.1
    · rcases List.mem_cons.1 hb with rfl | hb'
      · exact absurd (List.mem_map.2 ⟨a, ha', e⟩) h.1
      · exact nodup_map h.2 ha' hb' e
theorem good_nil : GoodE [] := ⟨by simp, by simp⟩
theorem stored_good (l : List EntP) : GoodE (storedF l []) := by rw [storedF_eq]; exact stoE_good l [] good_nil
theorem good_rev {l : List IxE} (h : GoodE l) : GoodE l.reverse := ⟨fun x hx => h.1 x (List.mem_reverse.1 hx), by rw [List.map_reverse]; exact List.pairwise_reverse.2 (h.2.imp fun hne e => hne e.symm)⟩
theorem agrees_all {s : Idn.Sch} {idx : List Bs} {es : List EntP} (hes : es.length ≤ 255) {l : List EntP} (hl : l = storedF es []) (a lo hi : Bs) {E : List IxE} (hE : E = putsE l []) :
    E = putsE l.reverse [] ∧ ((ixRange s idx E a lo hi).2 = true → ∀ e ∈ l, (ixRange s idx E a lo hi).1.contains e.1 = (rGet e.2 a).any (btw s a lo hi)) ∧ srtN (ixRange s idx E a lo hi).1 ∧ ((sNorm s a lo).2 = 0 → ixFind s idx E a lo = ixRange s idx E a lo lo) := by
  have hg : GoodE l := by rw [hl]; exact stored_good es
  have hlen : l.length ≤ 255 := by
    have := stored_len es []
    rw [hl]; simp at this; omega
  have hS : SamE l E := by
    have := puts_law l [] [] SamE.nil (by simpa using hlen)
    rw [stoE_self l [] (by simpa using hg), List.nil_append] at this
    rw [hE]; exact this
  refine ⟨?_, fun ht e he => ?_, (range_ok hS.ok a lo hi).1, fun h0 => ?_⟩
  · rw [hE]
    exact puts_turn hg (good_rev hg) (fun e => List.mem_reverse.symm) hlen (by rw [List.length_reverse]; exact hlen)
  · obtain ⟨n, A⟩ := e
    rw [btw_law]
    have hi' : idx.contains (Idn.lower a) = true := by
      cases hc : idx.contains (Idn.lower a) with
      | true => rfl
      | false => unfold ixRange at ht; rw [hc, if_pos (by rfl)] at ht; cases ht
    have hin : (n, Idn.rSorted A) ∈ E := (hS.mem n _).2 ⟨A, he, rfl⟩
    refine bool_ext ?_
    rw [List.contains_iff_mem]
    unfold ixRange
    rw [hi', if_neg (by decide), List.mem_map]
    show _ ↔ ((nV s a A).any fun v => inB s a v lo 1 && inB s a v hi (-1)) = true
    rw [← nV_sorted s a A]
    constructor
    · rintro ⟨⟨m, X⟩, hx, e1⟩
      obtain ⟨h1, h2⟩ := List.mem_filter.1 hx
      dsimp only at e1 h2
      subst e1
      obtain ⟨A1, h3, h4⟩ := (hS.mem _ _).1 h1
      have e2 : (m, A1) = (m, A) := by
        have := hg.2
        exact nodup_map (f := Prod.fst) this h3 he rfl
      injection e2 with _ e2
      rw [e2] at h4
      rw [← h4] at h2
      exact h2
    · intro h
      exact ⟨(n, Idn.rSorted A), List.mem_filter.2 ⟨hin, h⟩, rfl⟩
  · have hne : lo.isEmpty = false := by
      cases hv : lo.isEmpty with
      | false => rfl
      | true =>
        have := List.isEmpty_iff.1 hv
        subst this
        exact absurd h0 (norm_nil s a)
    rw [← refFind_eq, ← refRange_eq]
    unfold refFind
    rw [hne, if_neg (by decide)]
theorem srt_at {l : List Bs} (h : srtN l) {i : Nat} (h1 : i + 1 < l.length) : cmpNm l[i] l[i + 1] < 0 := List.pairwise_iff_getElem.1 h i (i + 1) (by omega) h1 (by omega)
end Go.Proofs.YtgjllfonmgfhgaaGreatDoor
/- law11: between. -/
namespace Go.Proofs.YtgjllfonmgfhgaaGreatDoor
open Go.RowKit Go.Sort
open Idn (L B Bs drop_L take_L size_L)
set_option maxHeartbeats 16000000 in
set_option maxRecDepth 100000 in
theorem between11_any (sv0 : Value) (s : Idn.Sch) (n : ByteArray) (ea : Value) (A : List Idn.Att) (ev : Value) (es : List EntP) (a lo hi : ByteArray) (w : World) (hS : SchV w w.heap.size sv0 s) (hs : SSm s) (hA : AttsV w w.heap.size ea A) (hL : LightE n A) (hV : EntsV w w.heap.size ev es) (ha : a.size ≤ 300) (hlo : lo.size ≤ 300) (hhi : hi.size ≤ 300) (hE : Env w) (hU : EnvU w) :
    Calls Tryz.prog 31 #[sv0, .agg #[.string n, ea], .agg #[ev, .string a, .string lo, .string hi]] w fun e w' => e = .returned (.bool ((rGet A (L a)).any (btw s (L a) (L lo) (L hi)))) ∧ Below w.heap.size w w' := by
  have kG := fun W (hW : Below w.heap.size w W) => r6_Get_any ea A a W (AttsV.mono (AttsV.keep hA hW) hW.size) (light_asm7 hL) (by omega)
  have kN := fun (x : Bs) (hx : x.length ≤ 300) W (hW : Below w.heap.size w W) => schNormal_any sv0 s a (B x) W (SchV.mono (SchV.keep hS hW) hW.size) hs (hE.keep hW) (hU.keep hW) (by omega) (by rw [Idn.size_B]; omega)
  have kC1 := fun (x : Bs) (hx : x.length ≤ 300) W (hW : Below w.heap.size w W) => schCompare_any sv0 s a lo (B x) W (SchV.mono (SchV.keep hS hW) hW.size) hs (hE.keep hW) (hU.keep hW) (by omega) (by omega) (by rw [Idn.size_B]; omega)
  have kC2 := fun (x : Bs) (hx : x.length ≤ 300) W (hW : Below w.heap.size w W) => schCompare_any sv0 s a (B x) hi W (SchV.mono (SchV.keep hS hW) hW.size) hs (hE.keep hW) (hU.keep hW) (by omega) (by rw [Idn.size_B]; omega) (by omega)
  simp only [Idn.L_B] at kN kC1 kC2
  have hvE : Hid (∀ x ∈ rGet A (L a), x.length ≤ 300) := rGet_all (p := fun x => x.length ≤ 300) (fun y hy x hx => (hL.2.2 y hy).2.2 x hx) (L a)
  have hvL : Hid ((rGet A (L a)).length ≤ 1000000000) := rGet_len (light_asm7 hL) (L a)
  have hbt : ∀ x, Hid (btw s (L a) (L lo) (L hi) x = (decide ((sNorm s (L a) x).2 = 0) && (((L lo).isEmpty || (decide ((sComp s (L a) (L lo) x).2 = 0) && decide ((sComp s (L a) (L lo) x).1 ≤ 0))) && ((L hi).isEmpty || (decide ((sComp s (L a) x (L hi)).2 = 0) && decide ((sComp s (L a) x (L hi)).1 ≤ 0)))))) := fun _ => rfl
  have hlt1 : lo.toList.isEmpty = (L lo).isEmpty := by rw [toList_L]
  have hlt2 : hi.toList.isEmpty = (L hi).isEmpty := by rw [toList_L]
  generalize (L lo).isEmpty = le at *
  generalize (L hi).isEmpty = he at *
  obtain ⟨R, hR⟩ : ∃ R, R = (rGet A (L a)).any (btw s (L a) (L lo) (L hi)) := ⟨_, rfl⟩
  rw [← hR]
  have HR : Hid (R = ((rGet A (L a)).drop 0).any (btw s (L a) (L lo) (L hi))) := hR
  clear hR
  generalize btw s (L a) (L lo) (L hi) = bt at *
  have hvl9 := hvL.out
  generalize rGet A (L a) = vs at *
  obtain ⟨sa, sb, rfl, hT, hC⟩ := hS
  obtain ⟨A1, c1, rfl, _⟩ := SlV.shape hT
  obtain ⟨A2, c2, rfl, _⟩ := SlV.shape hC
  obtain ⟨A3, c3, rfl, _⟩ := SlV.shape hV
  obtain ⟨A4, c4, rfl, _⟩ := SlV.shape hA
  clear hT hC hV hA hL hE hU
  go_enter Tryz.func31, Tryz.ntmps31
  go_upto_region 1 with fail
  with_reducible refine gen3 (R := fun W => Code.wp Tryz.prog _ _ _ W) ?_
  intro W hbW hszW hc1 hc2 hc3 _
  have s0 : W.cell? ⟨w.heap.size, 0, none⟩ = some (.slice A1 s.types.length c1) := hc1 0 _ rfl
  have s1 : W.cell? ⟨w.heap.size, 1, none⟩ = some (.slice A2 s.classes.length c2) := hc1 1 _ rfl
  have e1 : W.cell? ⟨w.heap.size + 1, 1, none⟩ = some (.slice A4 A.length c4) := hc2 1 _ rfl
  have b1 : W.cell? ⟨w.heap.size + 1 + 1, 1, none⟩ = some (.string a) := hc3 1 _ rfl
  have b2 : W.cell? ⟨w.heap.size + 1 + 1, 2, none⟩ = some (.string lo) := hc3 2 _ rfl
  have b3 : W.cell? ⟨w.heap.size + 1 + 1, 3, none⟩ = some (.string hi) := hc3 3 _ rfl
  clear hc1 hc2 hc3 hszW
  go_wp2_with fail
  refine (kG W hbW).mono ?_
  rintro e w1 ⟨A9, k9, c9, rfl, S9, hb1⟩
  have hk9 := SlV.len S9
  subst hk9
  replace s0 := cell_later hb1 s0
  replace s1 := cell_later hb1 s1
  replace b1 := cell_later hb1 b1
  replace b2 := cell_later hb1 b2
  replace b3 := cell_later hb1 b3
  have hbw1 := hbW.trans (hb1.mono hbW.size)
  clear kG hb1 hbW e1
  go_wp2_with fail
  go_loopw [8, 9, 10, 11, 12, 13, 14] (fun i _ _ _ _ _ _ wr => ∃ k : Nat, k ≤ vs.length ∧ i = .int .i64 k ∧ Below w1.heap.size w1 wr ∧ Hid (R = (vs.drop k).any bt)) (fun i _ _ _ _ _ _ _ => vs.length - (intOf i).toNat)
  case atStart => exact ⟨0, Nat.zero_le _, rfl, Below.refl _ _, HR⟩
  case round =>
    obtain ⟨k, hk, rfl, hb2, hinv⟩ := hrel
    have hbw2 := hbw1.trans (hb2.mono hbw1.size)
    clear HR
    by_cases hlt : k < vs.length
    · have hltI : (k : Int) < (vs.length : Int) := by omega
      replace s0 := cell_later hb2 s0
      replace s1 := cell_later hb2 s1
      replace b1 := cell_later hb2 b1
      replace b2 := cell_later hb2 b2
      replace b3 := cell_later hb2 b3
      obtain ⟨b, off, hAd, _, d0⟩ := StrsV.cell (SlV.mono (SlV.keep S9 hb2) hb2.size) hlt
      subst hAd
      have hxl := hvE.out _ (List.getElem_mem hlt)
      have hN := kN vs[k] hxl
      have hC1 := kC1 vs[k] hxl
      have hC2 := kC2 vs[k] hxl
      have hbx := hbt vs[k]
      have hst : Hid (R = (bt vs[k] || (vs.drop (k + 1)).any bt)) := by
        show _ = _
        rw [hinv.out, List.drop_eq_getElem_cons hlt, List.any_cons]
      generalize vs[k] = x at *
      generalize sNorm s (L a) x = nr at *
      generalize sComp s (L a) (L lo) x = cl at *
      generalize sComp s (L a) x (L hi) = ch at *
      generalize bt x = p at *
      obtain ⟨n1, n2⟩ := nr
      obtain ⟨l1, l2⟩ := cl
      obtain ⟨h1, h2⟩ := ch
      dsimp only at hN hC1 hC2 hbx
      have q1 := cq (W := wr) fun V hV => hN V (hbw2.trans (hV.mono hbw2.size))
      have i0 := cell_regrown s0
      have i1 := cell_regrown s1
      have i2 := cell_regrown b1
      have i3 := cell_regrown d0
      clear hN hinv hvE hvL hbt kN kC1 kC2
      go_wp2_with fail
      refine wp_region_quiet_below (by kernel_rfl) (by kernel_rfl) ?_
      repeat (first | go_big_quiet_step ((go_at_call 33; exact q1 _ _)) | quiet_step ((go_at_call 33; exact q1 _ _)))
      refine wpQuiet_nil ?_
      intro _ hw'
      obtain ⟨⟨dq, osq⟩, hw''⟩ := hw'
      subst hw''
      have hb4 := below_regrown wr dq osq
      generalize grow (redrawn wr dq) osq = W4 at hb4 ⊢
      clear q1 i0 i1 i2 i3
      have hbw4 := hbw2.trans (hb4.mono hbw2.size)
      have q2 := cq (W := W4) fun V hV => hC1 V (hbw4.trans (hV.mono hbw4.size))
      have i0 := cell_regrown (cell_later hb4 s0)
      have i1 := cell_regrown (cell_later hb4 s1)
      have i2 := cell_regrown (cell_later hb4 b1)
      have i3 := cell_regrown (cell_later hb4 b2)
      have i4 := cell_regrown (cell_later hb4 d0)
      clear hC1
      go_wp2_with fail
      refine wp_region_quiet_below (by kernel_rfl) (by kernel_rfl) ?_
      repeat (first | go_big_quiet_step ((go_at_call 70; exact q2 _ _)) | quiet_step ((go_at_call 70; exact q2 _ _)))
      refine wpQuiet_nil ?_
      intro _ hw'
      obtain ⟨⟨dq, osq⟩, hw''⟩ := hw'
      subst hw''
      have hb5 := below_regrown W4 dq osq
      generalize grow (redrawn W4 dq) osq = W5 at hb5 ⊢
      clear q2 i0 i1 i2 i3 i4
      have hbw5 := hbw4.trans (hb5.mono hbw4.size)
      have hb45 := Below.on hb4 hb5
      have q3 := cq (W := W5) fun V hV => hC2 V (hbw5.trans (hV.mono hbw5.size))
      have i0 := cell_regrown (cell_later hb45 s0)
      have i1 := cell_regrown (cell_later hb45 s1)
      have i2 := cell_regrown (cell_later hb45 b1)
      have i3 := cell_regrown (cell_later hb45 b3)
      have i4 := cell_regrown (cell_later hb45 d0)
      clear hC2
      go_wp2_with fail
      refine wp_region_quiet_below (by kernel_rfl) (by kernel_rfl) ?_
      repeat (first | go_big_quiet_step ((go_at_call 70; exact q3 _ _)) | quiet_step ((go_at_call 70; exact q3 _ _)))
      refine wpQuiet_nil ?_
      intro _ hw'
      obtain ⟨⟨dq, osq⟩, hw''⟩ := hw'
      subst hw''
      have hb6 := below_regrown W5 dq osq
      generalize grow (redrawn W5 dq) osq = W6 at hb6 ⊢
      clear q3 i0 i1 i2 i3 i4
      have hb46 := Below.on hb45 hb6
      replace b2 := cell_later hb46 b2
      replace b3 := cell_later hb46 b3
      have hbe := Below.on hb2 hb46
      have hbwe := hbw2.trans (hb46.mono hbw2.size)
      clear hb4 hb5 hb6 hb45 hb46 hbw4 hbw5 s0 s1 b1 d0 S9
      by_cases hn2 : n2 = 0
      case neg =>
        have hn2b : (n2 == 0) = false := by simpa using hn2
        have HP : Hid (p = false) := by show _ = _; rw [hbx.out, decide_eq_false hn2]; rfl
        clear hbx
        have HF : Hid (R = (vs.drop (k + 1)).any bt) := by show _ = _; rw [hst.out, HP.out]; rfl
        clear hst HP
        go_wp2_with fail
        go_roundw
        case rel => exact ⟨k + 1, by omega, by go_num, hbe, HF⟩
        case measure => simp [intOf]; omega
      have hn2b : (n2 == 0) = true := by simpa using hn2
      cases le with
      | true =>
        cases he with
        | true =>
          have HP : Hid (p = true) := by show _ = _; rw [hbx.out, decide_eq_true hn2]; rfl
          clear hbx
          have HF : Hid (R = true) := by show _ = _; rw [hst.out, HP.out]; rfl
          clear hst HP
          go_wp2_with fail
          go_ret
          exact ⟨ret_bool HF.out.symm, hbwe⟩
        | false =>
          by_cases hh2 : h2 = 0
          case neg =>
            have hh2b : (h2 == 0) = false := by simpa using hh2
            have HP : Hid (p = false) := by show _ = _; rw [hbx.out, decide_eq_true hn2, decide_eq_false hh2]; rfl
            clear hbx
            have HF : Hid (R = (vs.drop (k + 1)).any bt) := by show _ = _; rw [hst.out, HP.out]; rfl
            clear hst HP
            go_wp2_with fail
            go_roundw
            case rel => exact ⟨k + 1, by omega, by go_num, hbe, HF⟩
            case measure => simp [intOf]; omega
          have hh2b : (h2 == 0) = true := by simpa using hh2
          by_cases hh1 : h1 ≤ 0
          · skip
            have HP : Hid (p = true) := by show _ = _; rw [hbx.out, decide_eq_true hn2, decide_eq_true hh2, decide_eq_true hh1]; rfl
            clear hbx
            have HF : Hid (R = true) := by show _ = _; rw [hst.out, HP.out]; rfl
            clear hst HP
            go_wp2_with fail
            go_ret
            exact ⟨ret_bool HF.out.symm, hbwe⟩
          · skip
            have HP : Hid (p = false) := by show _ = _; rw [hbx.out, decide_eq_true hn2, decide_eq_true hh2, decide_eq_false hh1]; rfl
            clear hbx
            have HF : Hid (R = (vs.drop (k + 1)).any bt) := by show _ = _; rw [hst.out, HP.out]; rfl
            clear hst HP
            go_wp2_with fail
            go_roundw
            case rel => exact ⟨k + 1, by omega, by go_num, hbe, HF⟩
            case measure => simp [intOf]; omega
      | false =>
        by_cases hl2 : l2 = 0
        case neg =>
          have hl2b : (l2 == 0) = false := by simpa using hl2
          have HP : Hid (p = false) := by show _ = _; rw [hbx.out, decide_eq_true hn2, decide_eq_false hl2]; rfl
          clear hbx
          have HF : Hid (R = (vs.drop (k + 1)).any bt) := by show _ = _; rw [hst.out, HP.out]; rfl
          clear hst HP
          go_wp2_with fail
          go_roundw
          case rel => exact ⟨k + 1, by omega, by go_num, hbe, HF⟩
          case measure => simp [intOf]; omega
        have hl2b : (l2 == 0) = true := by simpa using hl2
        by_cases hl1 : l1 ≤ 0
        case neg =>
          skip
          have HP : Hid (p = false) := by show _ = _; rw [hbx.out, decide_eq_true hn2, decide_eq_true hl2, decide_eq_false hl1]; rfl
          clear hbx
          have HF : Hid (R = (vs.drop (k + 1)).any bt) := by show _ = _; rw [hst.out, HP.out]; rfl
          clear hst HP
          go_wp2_with fail
          go_roundw
          case rel => exact ⟨k + 1, by omega, by go_num, hbe, HF⟩
          case measure => simp [intOf]; omega
        cases he with
        | true =>
          have HP : Hid (p = true) := by show _ = _; rw [hbx.out, decide_eq_true hn2, decide_eq_true hl2, decide_eq_true hl1]; rfl
          clear hbx
          have HF : Hid (R = true) := by show _ = _; rw [hst.out, HP.out]; rfl
          clear hst HP
          go_wp2_with fail
          go_ret
          exact ⟨ret_bool HF.out.symm, hbwe⟩
        | false =>
          by_cases hh2 : h2 = 0
          case neg =>
            have hh2b : (h2 == 0) = false := by simpa using hh2
            have HP : Hid (p = false) := by show _ = _; rw [hbx.out, decide_eq_true hn2, decide_eq_true hl2, decide_eq_true hl1, decide_eq_false hh2]; rfl
            clear hbx
            have HF : Hid (R = (vs.drop (k + 1)).any bt) := by show _ = _; rw [hst.out, HP.out]; rfl
            clear hst HP
            go_wp2_with fail
            go_roundw
            case rel => exact ⟨k + 1, by omega, by go_num, hbe, HF⟩
            case measure => simp [intOf]; omega
          have hh2b : (h2 == 0) = true := by simpa using hh2
          by_cases hh1 : h1 ≤ 0
          · skip
            have HP : Hid (p = true) := by show _ = _; rw [hbx.out, decide_eq_true hn2, decide_eq_true hl2, decide_eq_true hl1, decide_eq_true hh2, decide_eq_true hh1]; rfl
            clear hbx
            have HF : Hid (R = true) := by show _ = _; rw [hst.out, HP.out]; rfl
            clear hst HP
            go_wp2_with fail
            go_ret
            exact ⟨ret_bool HF.out.symm, hbwe⟩
          · skip
            have HP : Hid (p = false) := by show _ = _; rw [hbx.out, decide_eq_true hn2, decide_eq_true hl2, decide_eq_true hl1, decide_eq_true hh2, decide_eq_false hh1]; rfl
            clear hbx
            have HF : Hid (R = (vs.drop (k + 1)).any bt) := by show _ = _; rw [hst.out, HP.out]; rfl
            clear hst HP
            go_wp2_with fail
            go_roundw
            case rel => exact ⟨k + 1, by omega, by go_num, hbe, HF⟩
            case measure => simp [intOf]; omega
    · have hltI : ¬ (k : Int) < (vs.length : Int) := by omega
      have HF : Hid (R = false) := by show _ = _; rw [hinv.out, List.drop_eq_nil_of_le (by omega)]; rfl
      clear hinv hvE hvL hbt kN kC1 kC2 s0 s1 b1 b2 b3
      go_wp2_with fail
      go_ret
      exact ⟨ret_bool HF.out.symm, hbw2⟩
end Go.Proofs.YtgjllfonmgfhgaaGreatDoor
/- law11: IndexAgrees. -/
namespace Go.Proofs.YtgjllfonmgfhgaaGreatDoor
open Go.RowKit Go.Sort
open Idn (L B Bs drop_L take_L size_L)
set_option maxHeartbeats 24000000 in
set_option maxRecDepth 100000 in
theorem indexAgrees_any (sv0 : Value) (s : Idn.Sch) (nv : Value) (ns : List Bs) (ev : Value) (es : List EntP) (a lo hi : ByteArray) (w : World) (hS : SchV w w.heap.size sv0 s) (hg : GSch s 1048576) (hN : StrsV w w.heap.size nv ns) (hgn : GS ns 1048576) (hV : EntsV w w.heap.size ev es) (hel : es.length ≤ 1048576) (hee : ∀ e ∈ es, GE e 1048576) (ha : a.size ≤ 1048576) (hlo : lo.size ≤ 1048576) (hhi : hi.size ≤ 1048576) (hE : Env w) (hU : EnvU w) :
    Calls Tryz.prog 5 #[sv0, nv, .agg #[ev, .string a, .string lo, .string hi]] w fun e w' => e = .returned (.bool true) ∧ Below w.heap.size w w' := by
  have hEv : ∀ W, Below w.heap.size w W → Env W ∧ EnvU W := fun W hW => ⟨hE.keep hW, hU.keep hW⟩
  have hssm : SSm s := hg.ssm (by decide)
  have kb := fun W (hW : Below w.heap.size w W) => brief11_any sv0 s W (SchV.mono (SchV.keep hS hW) hW.size) ⟨by have := hg.1.1; omega, by have := hg.2.1; omega⟩
  have ks := fun W (hW : Below w.heap.size w W) => short11_any nv ns W (SlV.mono (SlV.keep hN hW) hW.size) (by have := hgn.1; omega)
  have kr := fun W (hW : Below w.heap.size w W) => ready11_no ev es W (EntsV.mono (EntsV.keep hV hW) hW.size) (ge_elen hel hee)
  have ka := fun W (hW : Below w.heap.size w W) => alive11_any W (hE.keep hW) (hU.keep hW)
  have kn := fun (hbs : BriefS s) (hsh : ShortL ns) W (hW : Below w.heap.size w W) => ixNew_any sv0 nv s ns W (SchV.mono (SchV.keep hS hW) hW.size) hssm (by have := hbs.1.1; omega) (by have := hbs.2.1; omega) (fun c hc => by obtain ⟨_, _, q1, q2⟩ := hg.2.2 c hc; exact ⟨by have := q1.1; omega, by have := q2.1; omega⟩) (SlV.mono (SlV.keep hN hW) hW.size) (by have := hsh.1; omega) (fun n hn => by have := hsh.2 n hn; omega)
  have kst := fun (h1 : es.length ≤ 10) (h2 : ∀ e ∈ es, LightE (B e.1) e.2) W (hW : Below w.heap.size w W) => stored11_any ev es W (EntsV.mono (EntsV.keep hV hW) hW.size) h1 h2
  have kB := fun (h1 : a.size ≤ 300) (h2 : lo.size ≤ 300) (h3 : hi.size ≤ 300) (nm : Bs) (va : Value) (X : List Idn.Att) (hX : LightE (B nm) X) W (hW : Below w.heap.size w W) (hva : AttsV W W.heap.size va X) => between11_any sv0 s (B nm) va X ev es a lo hi W (SchV.mono (SchV.keep hS hW) hW.size) hssm hva hX (EntsV.mono (EntsV.keep hV hW) hW.size) h1 h2 h3 (hE.keep hW) (hU.keep hW)
  have kN := fun W (hW : Below w.heap.size w W) => schNormal_any sv0 s a lo W (SchV.mono (SchV.keep hS hW) hW.size) hssm (hE.keep hW) (hU.keep hW) (by omega) (by omega)
  obtain ⟨sa, sb, rfl, hT, hC⟩ := hS
  obtain ⟨A1, c1, rfl, _⟩ := SlV.shape hT
  obtain ⟨A2, c2, rfl, _⟩ := SlV.shape hC
  obtain ⟨A0, cn, rfl, _⟩ := SlV.shape hN
  obtain ⟨A3, c3, rfl, _⟩ := SlV.shape hV
  clear hT hC hN hgn hg hee hel
  go_enter Tryz.func5, Tryz.ntmps5
  go_upto_region 1 with fail
  with_reducible refine gen2 (R := fun W => Code.wp Tryz.prog _ _ _ W) ?_
  intro W hbW _ hc1 hc2
  have s0 : W.cell? ⟨w.heap.size, 0, none⟩ = some (.slice A1 s.types.length c1) := hc1 0 _ rfl
  have s1 : W.cell? ⟨w.heap.size, 1, none⟩ = some (.slice A2 s.classes.length c2) := hc1 1 _ rfl
  have b0 : W.cell? ⟨w.heap.size + 1, 0, none⟩ = some (.slice A3 es.length c3) := hc2 0 _ rfl
  have b1 : W.cell? ⟨w.heap.size + 1, 1, none⟩ = some (.string a) := hc2 1 _ rfl
  have b2 : W.cell? ⟨w.heap.size + 1, 2, none⟩ = some (.string lo) := hc2 2 _ rfl
  have b3 : W.cell? ⟨w.heap.size + 1, 3, none⟩ = some (.string hi) := hc2 3 _ rfl
  clear hc1 hc2
  go_wp2_with fail
  refine (kb W hbW).mono ?_
  rintro e w1 ⟨r1, rfl, hr1, hb1⟩
  have hl1 := Cls.of_below hb1
  replace s0 := hl1.cell s0
  replace s1 := hl1.cell s1
  replace b0 := hl1.cell b0
  replace b1 := hl1.cell b1
  replace b2 := hl1.cell b2
  replace b3 := hl1.cell b3
  have hbw1 := hbW.trans (hb1.mono hbW.size)
  have H1 := Lib.hid hr1
  clear kb hb1 hr1 hbW hl1
  cases r1
  case false =>
    clear ks kr kn kst kB kN H1 s0 s1 b0 b1 b2 b3
    go_wp2_with fail
    refine (ka w1 hbw1).mono ?_
    rintro e w99 ⟨rfl, hb99⟩
    go_wp2_with fail
    go_ret
    exact ⟨rfl, hbw1.trans (hb99.mono hbw1.size)⟩
  have G1 := Lib.hid (H1.out rfl)
  clear H1
  go_wp2_with fail
  refine (ks w1 hbw1).mono ?_
  rintro e w2 ⟨r2, rfl, hr2, hb2⟩
  have hl2 := Cls.of_below hb2
  replace s0 := hl2.cell s0
  replace s1 := hl2.cell s1
  replace b0 := hl2.cell b0
  replace b1 := hl2.cell b1
  replace b2 := hl2.cell b2
  replace b3 := hl2.cell b3
  have hbw2 := hbw1.trans (hb2.mono hbw1.size)
  have H2 := Lib.hid hr2
  clear ks hb2 hr2 hbw1 hl2
  cases r2
  case false =>
    clear kr kn kst kB kN H2 G1 s0 s1 b0 b1 b2 b3
    go_wp2_with fail
    refine (ka w2 hbw2).mono ?_
    rintro e w99 ⟨rfl, hb99⟩
    go_wp2_with fail
    go_ret
    exact ⟨rfl, hbw2.trans (hb99.mono hbw2.size)⟩
  have G2 := Lib.hid (H2.out rfl)
  clear H2
  go_wp2_with fail
  refine (kr w2 hbw2).mono ?_
  rintro e w3 ⟨r3, rfl, hr3, hb3⟩
  have hl3 := Cls.of_below hb3
  replace s0 := hl3.cell s0
  replace s1 := hl3.cell s1
  replace b0 := hl3.cell b0
  replace b1 := hl3.cell b1
  replace b2 := hl3.cell b2
  replace b3 := hl3.cell b3
  have hbw3 := hbw2.trans (hb3.mono hbw2.size)
  have H3 := Lib.hid hr3
  clear kr hb3 hr3 hbw2 hl3
  cases r3
  case false =>
    clear kn kst kB kN H3 G1 G2 s0 s1 b0 b1 b2 b3
    go_wp2_with fail
    refine (ka w3 hbw3).mono ?_
    rintro e w99 ⟨rfl, hb99⟩
    go_wp2_with fail
    go_ret
    exact ⟨rfl, hbw3.trans (hb99.mono hbw3.size)⟩
  have G3 := Lib.hid (H3.out rfl)
  clear H3
  by_cases hz1 : (300 : Int) < (a.size : Int)
  case pos =>
    clear kn kst kB kN G1 G2 G3
    go_wp2_with fail
    refine (ka w3 hbw3).mono ?_
    rintro e w99 ⟨rfl, hb99⟩
    go_wp2_with fail
    go_ret
    exact ⟨rfl, hbw3.trans (hb99.mono hbw3.size)⟩
  by_cases hz2 : (300 : Int) < (lo.size : Int)
  case pos =>
    clear kn kst kB kN G1 G2 G3
    go_wp2_with fail
    refine (ka w3 hbw3).mono ?_
    rintro e w99 ⟨rfl, hb99⟩
    go_wp2_with fail
    go_ret
    exact ⟨rfl, hbw3.trans (hb99.mono hbw3.size)⟩
  by_cases hz3 : (300 : Int) < (hi.size : Int)
  case pos =>
    clear kn kst kB kN G1 G2 G3
    go_wp2_with fail
    refine (ka w3 hbw3).mono ?_
    rintro e w99 ⟨rfl, hb99⟩
    go_wp2_with fail
    go_ret
    exact ⟨rfl, hbw3.trans (hb99.mono hbw3.size)⟩
  replace kn := kn G1.out G2.out
  replace kst := kst G3.out.1 G3.out.2
  replace kB := kB (by omega) (by omega) (by omega)
  have hl10 := Lib.hid G3.out.1
  have hL0 : Hid (∀ e ∈ es, LightE (B e.1) e.2) := G3.out.2
  clear G1 G2 G3
  -- New twice
  have hGz := fun h => Lib.hid (nwE_zero (s := s) (ns := ns) hssm h)
  have knn := kn
  generalize hnw : nwE s ns = ec at *
  have hnw' := Lib.hid hnw
  clear hnw
  go_wp2_with fail
  refine (kn w3 hbw3).mono ?_
  rintro e w5 ⟨hb5, ⟨hz, px, eb, vb, hs, ta, cb, ts, rfl, hhs, hI⟩ | ⟨hz, rfl⟩⟩
  case inr =>
    have hbw5 := hbw3.trans (hb5.mono hbw3.size)
    have ht : (ec == ec) = true := beq_self_eq_true ec
    clear hGz
    replace s0 := (Cls.of_below hb5).cell s0
    replace s1 := (Cls.of_below hb5).cell s1
    clear kn hb5 kst kB kN b0 b1 b2 b3
    go_wp2_with fail
    refine (knn w5 hbw5).mono ?_
    rintro e w6 ⟨hb6, ⟨hz2, _⟩ | ⟨_, rfl⟩⟩
    · exact absurd hz2 hz
    have hbw6 := hbw5.trans (hb6.mono hbw5.size)
    clear knn s0 s1 hb6 hbw5 hnw'
    go_wp2_with fail
    refine (ka w6 hbw6).mono ?_
    rintro e w99 ⟨rfl, hb99⟩
    go_wp2_with fail
    go_ret
    exact ⟨rfl, hbw6.trans (hb99.mono hbw6.size)⟩
  subst hz
  have hG0 := hGz rfl
  have hhw : w.heap.size ≤ hs := Nat.le_trans hbw3.size hhs
  have hbw5 := hbw3.trans (hb5.mono hbw3.size)
  replace s0 := (Cls.of_below hb5).cell s0
  replace s1 := (Cls.of_below hb5).cell s1
  replace b0 := (Cls.of_below hb5).cell b0
  replace b1 := (Cls.of_below hb5).cell b1
  replace b2 := (Cls.of_below hb5).cell b2
  replace b3 := (Cls.of_below hb5).cell b3
  clear kn hb5 hhs hbw3
  go_wp2_with fail
  refine (knn w5 hbw5).mono ?_
  rintro e w6 ⟨hb6, ⟨_, py, eb', vb', hs', ta', cb', ts', rfl, hhs', hJ⟩ | ⟨hz2, _⟩⟩
  case inr => exact absurd rfl hz2
  have hhw' : w.heap.size ≤ hs' := Nat.le_trans hbw5.size hhs'
  have hbw6 := hbw5.trans (hb6.mono hbw5.size)
  have hdj := Dj.of hI hJ hhs'
  replace hI := hI.keep hb6
  replace s0 := (Cls.of_below hb6).cell s0
  replace s1 := (Cls.of_below hb6).cell s1
  replace b0 := (Cls.of_below hb6).cell b0
  replace b1 := (Cls.of_below hb6).cell b1
  replace b2 := (Cls.of_below hb6).cell b2
  replace b3 := (Cls.of_below hb6).cell b3
  clear knn hb6 hhs' hbw5 hGz hnw'
  -- stored
  go_wp2_with fail
  refine (kst w6 hbw6).mono ?_
  rintro e w7 ⟨lv, qs, rfl, hown, hqs, hb7⟩
  obtain ⟨A6, c6, hsh⟩ := own_shape hown.1
  subst hsh
  have hl67 := Cls.of_below hb7
  replace s0 := hl67.cell s0
  replace s1 := hl67.cell s1
  replace b0 := hl67.cell b0
  replace b1 := hl67.cell b1
  replace b2 := hl67.cell b2
  replace b3 := hl67.cell b3
  have hbw7 := hbw6.trans (hb7.mono hbw6.size)
  replace hI := hI.keep hb7
  replace hJ := hJ.keep hb7
  obtain ⟨l, hl⟩ : ∃ l, l = qs.map (·.1) := ⟨_, rfl⟩
  have hll : l.length = qs.length := by rw [hl, List.length_map]
  rw [← hl] at hqs
  have hq10 : qs.length ≤ 10 := by
    have h1 := stored_len es []
    rw [← hqs, hll] at h1
    simp at h1
    have := hl10.out
    omega
  have hLm : ∀ e ∈ l, LightE (B e.1) e.2 := fun e he => by
    rw [hqs] at he
    rcases stored_sub es [] e he with h | h
    · exact hL0.out e h
    · simp at h
  have hLt : Hid (∀ (k : Nat) (hk : k < l.length), LightE (B l[k].1) l[k].2) := fun k hk => hLm _ (List.getElem_mem hk)
  clear hLm
  replace hqs := Lib.hid hqs
  replace hl := Lib.hid hl
  have hlr : Hid (∀ (k : Nat) (hk : k < l.length), l.reverse[k]'(by rw [List.length_reverse]; exact hk) = l[l.length - 1 - k]'(by omega)) := fun k hk => by rw [List.getElem_reverse]
  clear kst hb7 hV hbw6 hL0
  -- the puts
  go_wp2_with fail
  go_loopw [12] (fun i wr => ∃ (k : Nat) (ex ey : List IxE) (g g' : Bs → Value) (G G' : Bs → Bs → Option Nat), k ≤ qs.length ∧ i = .int .i64 k ∧ IxV wr hs hs px s ns ex ta cb eb vb g ts G ∧ IxV wr hs' hs' py s ns ey ta' cb' eb' vb' g' ts' G' ∧ Hid (GdI s ns ex) ∧ Hid (GdI s ns ey) ∧ ex.length ≤ k ∧ ey.length ≤ k ∧ Dj eb vb ts G eb' vb' ts' G' ∧ EntRef w6 wr w6.heap.size (.slice A6 qs.length c6) qs ∧ Below w.heap.size w wr ∧ Cls w7 wr ∧ Hid (putsE (l.drop k) ex = putsE l []) ∧ Hid (putsE (l.reverse.drop k) ey = putsE l.reverse [])) (fun i _ => qs.length - (intOf i).toNat)
  case atStart => exact ⟨0, [], [], _, _, _, _, Nat.zero_le _, rfl, hI, hJ, hG0, hG0, Nat.le_refl _, Nat.le_refl _, hdj, hown, hbw7, Cls.refl _, rfl, rfl⟩
  case round =>
    obtain ⟨k, ex, ey, g, g', G, G', hk, rfl, hIk, hJk, hGx, hGy, hxl, hyl, hdk, hownk, hbk, hck, hix, hiy⟩ := hrel
    clear hI hJ hG0 hdj hown
    by_cases hlt : k < qs.length
    · have hltI : (k : Int) < (qs.length : Int) := by omega
      have hkl : k < l.length := by omega
      obtain ⟨m, hm⟩ : ∃ m, qs.length = k + 1 + m := ⟨qs.length - (k + 1), by omega⟩
      have hml : m < l.length := by omega
      have hQ : EntsV wr wr.heap.size (.slice A6 qs.length c6) l := hownk.entsC hl.out.symm (hl67.trans hck)
      obtain ⟨b, off, va, hAd, _, d0, d1, hva⟩ := EntsV.cell hQ hkl
      subst hAd
      obtain ⟨b2, off2, vb2, hAd, _, f0, f1, hvb⟩ := EntsV.cell hQ hml
      injection hAd with hAd
      injection hAd with hA1 hA2 _
      subst hA1 hA2
      obtain ⟨Av, cv, rfl, _⟩ := SlV.shape hva
      obtain ⟨Aw, cw, rfl, _⟩ := SlV.shape hvb
      have hli := hLt.out k hkl
      have hlj := hLt.out m hml
      have hput := put11_any hIk hGx.out (by omega) hhw w hbk hEv l[k].1 (by have := hli.1; rw [Idn.size_B] at this; omega) _ l[k].2 hva (light_asm7 hli)
      have hput2 := fun (W : World) (hJ2 : IxV W hs' hs' py s ns ey ta' cb' eb' vb' g' ts' G') (hbW : Below w.heap.size w W) (hcW : Cls wr W) => put11_any hJ2 hGy.out (by omega) hhw' w hbW hEv l[m].1 (by have := hlj.1; rw [Idn.size_B] at this; omega) _ l[m].2 (AttsV.mono (AttsV.keepK hvb hcW) hcW.2) (light_asm7 hlj)
      have hst : Hid (putsE (l.drop (k + 1)) (ixPut ex l[k].1 l[k].2).2 = putsE l []) := by
        show _ = _
        rw [← hix.out, List.drop_eq_getElem_cons hkl, putsE]
      have hst2 : Hid (putsE (l.reverse.drop (k + 1)) (ixPut ey l[m].1 l[m].2).2 = putsE l.reverse []) := by
        show _ = _
        rw [← hiy.out, List.drop_eq_getElem_cons (show k < l.reverse.length by rw [List.length_reverse]; exact hkl), putsE, hlr.out k hkl]
        have e : l.length - 1 - k = m := by omega
        simp only [e]
      have hel2 : (ixPut ex l[k].1 l[k].2).2.length ≤ k + 1 := Nat.le_trans (put_len hGx.out.ok _ _) (by omega)
      have hel3 : (ixPut ey l[m].1 l[m].2).2.length ≤ k + 1 := Nat.le_trans (put_len hGy.out.ok _ _) (by omega)
      have hall := hIk.allMap
      generalize ixPut ex l[k].1 l[k].2 = r at *
      generalize ixPut ey l[m].1 l[m].2 = r2 at *
      obtain ⟨ri, re⟩ := r
      obtain ⟨ri2, re2⟩ := r2
      dsimp only at hput hput2 hst hst2 hel2 hel3
      generalize l[k] = x at *
      generalize l[m] = y at *
      obtain ⟨xn, xa⟩ := x
      obtain ⟨yn, ya⟩ := y
      dsimp only at d0 d1 f0 f1 hput hput2 hva hvb
      have hm1 : (qs.length : Int) - 1 - (k : Int) = (m : Int) := by omega
      have hm2 : wrap64 ((qs.length : Int) - 1) = (qs.length : Int) - 1 := by unfold wrap64; omega
      have hm3 : wrap64 (wrap64 ((qs.length : Int) - 1) - (k : Int)) = (m : Int) := by rw [hm2, hm1]; unfold wrap64; omega
      have hm4 : m < qs.length := by omega
      have hm5 : (m : Int) < (qs.length : Int) := by omega
      clear hix hiy hli hlj hva hvb kB kN hlr hQ hm
      go_wp2_with fail
      refine hput.mono ?_
      rintro e w8 ⟨rfl, g2, G2, hI2, hG2, hm8, hn8, hb8, hc8⟩
      replace hG2 := Lib.hid hG2
      have hJ2 := hJk.other hdk hm8 hall
      have hd2 := hdk.turn hJk hn8
      replace f0 := hc8.cell f0
      replace f1 := hc8.cell f1
      have hp2 := hput2 w8 hJ2 hb8 hc8
      have hown8 := hownk.mv hm8 hall
      have hall2 := hJ2.allMap
      clear hput hput2 hm8 hall hn8 hJk hownk hdk hbk hGx
      go_wp2_with fail
      refine hp2.mono ?_
      rintro e w9 ⟨rfl, g3, G3, hJ3, hG3, hm9, hn9, hb9, hc9⟩
      replace hG3 := Lib.hid hG3
      have hI3 := hI2.other hd2.symm hm9 hall2
      have hd3 := (hd2.symm.turn hI2 hn9).symm
      have hown9 := hown8.mv hm9 hall2
      clear hp2 hm9 hall2 hn9 hI2 hJ2 hown8 hd2
      go_wp2_with fail
      go_roundw
      case rel => exact ⟨k + 1, re, re2, g2, g3, G2, G3, by omega, by go_num, hI3, hJ3, hG2, hG3, hel2, hel3, hd3, hown9, hb9, (hck.trans hc8).trans hc9, hst, hst2⟩
      case measure => simp [intOf]; omega
    · have hltI : ¬ (k : Int) < (qs.length : Int) := by omega
      have hE1 : ex = putsE l [] := by
        have := hix.out
        rwa [List.drop_eq_nil_of_le (by omega), putsE] at this
      have hE2 : ey = putsE l.reverse [] := by
        have := hiy.out
        rwa [List.drop_eq_nil_of_le (by rw [List.length_reverse]; omega), putsE] at this
      obtain ⟨P1, P2, P3, P4⟩ := agrees_all (s := s) (idx := ns.map Idn.lower) (es := es) (by have := hl10.out; omega) hqs.out (L a) (L lo) (L hi) hE1
      have hyx : ey = ex := hE2.trans P1.symm
      subst hyx
      have hQ : EntsV wr wr.heap.size (.slice A6 qs.length c6) l := hownk.entsC hl.out.symm (hl67.trans hck)
      replace s0 := hck.cell s0
      replace s1 := hck.cell s1
      replace b0 := hck.cell b0
      replace b1 := hck.cell b1
      replace b2 := hck.cell b2
      replace b3 := hck.cell b3
      have hRl : (ixRange s (ns.map Idn.lower) ey (L a) (L lo) (L hi)).1.length ≤ 1000000000000 := by
        have := (range_ok (s := s) (idx := ns.map Idn.lower) hGx.out.ok (L a) (L lo) (L hi)).len hGx.out.ok
        exact Nat.le_trans this (by omega)
      have hRl2 : (ixRange s (ns.map Idn.lower) ey (L a) (L lo) (L lo)).1.length ≤ 1000000000000 := by
        have := (range_ok (s := s) (idx := ns.map Idn.lower) hGx.out.ok (L a) (L lo) (L lo)).len hGx.out.ok
        exact Nat.le_trans this (by omega)
      have hRn : Hid (∀ x ∈ (ixRange s (ns.map Idn.lower) ey (L a) (L lo) (L hi)).1, x.length ≤ 1000000) := fun x hx => by
        obtain ⟨y, hy, rfl⟩ := List.mem_map.1 ((range_ok (s := s) (idx := ns.map Idn.lower) hGx.out.ok (L a) (L lo) (L hi)).2 x hx)
        exact hGx.out.nam y hy
      have kR1 := fun W (hW : Below wr.heap.size wr W) => rng11_any (hIk.keep hW) hGx.out w (hbk.trans (hW.mono hbk.size)) (hbk.trans (hW.mono hbk.size)).size hEv a lo hi (by omega) (by omega) (by omega)
      have kR2 := fun W (hW : Below wr.heap.size wr W) => rng11_any (hJk.keep hW) hGx.out w (hbk.trans (hW.mono hbk.size)) (hbk.trans (hW.mono hbk.size)).size hEv a lo hi (by omega) (by omega) (by omega)
      have kR3 := fun W (hW : Below wr.heap.size wr W) => rng11_any (hIk.keep hW) hGx.out w (hbk.trans (hW.mono hbk.size)) (hbk.trans (hW.mono hbk.size)).size hEv a lo lo (by omega) (by omega) (by omega)
      have kF := fun W (hW : Below wr.heap.size wr W) => fnd11_any (hIk.keep hW) hGx.out w (hbk.trans (hW.mono hbk.size)) (hbk.trans (hW.mono hbk.size)).size hEv a lo (by omega) (by omega)
      replace P2 := Lib.hid P2
      replace P3 := Lib.hid P3
      replace P4 := Lib.hid P4
      have kN1 := fun W (hW : Below wr.heap.size wr W) => kN W (hbk.trans (hW.mono hbk.size))
      have kB1 := fun (nm : Bs) (va : Value) (X : List Idn.Att) (hX : LightE (B nm) X) W (hW : Below wr.heap.size wr W) => kB nm va X hX W (hbk.trans (hW.mono hbk.size))
      have ka1 := fun W (hW : Below wr.heap.size wr W) => ka W (hbk.trans (hW.mono hbk.size))
      have hb0 := Below.refl wr.heap.size wr
      clear hix hiy hE1 hE2 P1 hlr hl10 hqs hxl hyl hownk hck hl67 hdk hGx hGy kB kN ka
      generalize ixRange s (ns.map Idn.lower) ey (L a) (L lo) (L hi) = r at *
      generalize ixRange s (ns.map Idn.lower) ey (L a) (L lo) (L lo) = r2 at *
      generalize ixFind s (ns.map Idn.lower) ey (L a) (L lo) = fr at *
      generalize sNorm s (L a) (L lo) = nr at *
      generalize btw s (L a) (L lo) (L hi) = bt at *
      obtain ⟨rl, ro⟩ := r
      obtain ⟨n1, n2⟩ := nr
      dsimp only at P2 P3 P4 hRl hRn kN1
      clear hIk hJk
      go_wp2_with fail
      refine (kR1 wr hb0).mono ?_
      intro e w8 hret
      obtain ⟨A8, c8, rfl, S8, hb8⟩ := hret.open_
      dsimp only at S8
      replace s0 := cell_later hb8 s0
      replace s1 := cell_later hb8 s1
      replace b0 := cell_later hb8 b0
      replace b1 := cell_later hb8 b1
      replace b2 := cell_later hb8 b2
      replace b3 := cell_later hb8 b3
      clear kR1 hret
      go_wp2_with fail
      refine (kR2 w8 hb8).mono ?_
      intro e w9 hret
      obtain ⟨A9, c9, rfl, S9, hb9⟩ := hret.open_
      dsimp only at S9
      replace s0 := cell_later hb9 s0
      replace s1 := cell_later hb9 s1
      replace b0 := cell_later hb9 b0
      replace b1 := cell_later hb9 b1
      replace b2 := cell_later hb9 b2
      replace b3 := cell_later hb9 b3
      replace S8 := SlV.mono (SlV.keep S8 hb9) hb9.size
      have hb19 := Below.on hb8 hb9
      have hLs := r_lists_any _ _ _ _ w9 S8 S9 hRl hRl
      rw [decide_eq_true rfl] at hLs
      have hoo : (ro != ro) = false := by cases ro <;> rfl
      clear kR2 hret hb9 hb8 S9
      go_wp2_with fail
      refine hLs.mono ?_
      rintro e w10 ⟨rfl, hb10⟩
      replace s0 := cell_later hb10 s0
      replace s1 := cell_later hb10 s1
      replace b0 := cell_later hb10 b0
      replace b1 := cell_later hb10 b1
      replace b2 := cell_later hb10 b2
      replace b3 := cell_later hb10 b3
      replace S8 := SlV.mono (SlV.keep S8 hb10) hb10.size
      have hb20 := Below.on hb19 hb10
      have hQ10 := EntsV.mono (EntsV.keep hQ hb20) hb20.size
      clear hLs hb10 hb19 hQ
      cases ro with
      | false =>
        clear kB1 P2 hQ10
        go_wp2_with fail
        go_loopw [17] (fun i wb => Below w10.heap.size w10 wb) (fun i _ => 0)
        case atStart => exact Below.refl _ _
        case round =>
          rename World => wb
          have hb11 := hrel
          have hbb := Below.on hb20 hb11
          have SB := SlV.mono (SlV.keep S8 hb11) hb11.size
          replace s0 := cell_later hb11 s0
          replace s1 := cell_later hb11 s1
          replace b0 := cell_later hb11 b0
          replace b1 := cell_later hb11 b1
          replace b2 := cell_later hb11 b2
          replace b3 := cell_later hb11 b3
          clear S8 hb20 hrel hb11
          go_wp2_with fail
          go_loopw [18] (fun i wj => ∃ m : Nat, i = .int .i64 ((m : Int) + 1) ∧ m ≤ rl.length ∧ Below wb.heap.size wb wj) (fun i _ => rl.length + 1 - (intOf i).toNat)
          case atStart => exact ⟨0, rfl, Nat.zero_le _, Below.refl _ _⟩
          case round =>
            rename World => wj
            obtain ⟨m, rfl, hm, hbj⟩ := hrel
            have hbbj := Below.on hbb hbj
            by_cases hlm : m + 1 < rl.length
            · have hlmI : (m : Int) + 1 < (rl.length : Int) := by omega
              clear P4 kR3 kF kN1 ka1 s0 s1 b1 b2 b3
              obtain ⟨b, off, hAd, _, d0⟩ := StrsV.cell (SlV.mono (SlV.keep SB hbj) hbj.size) (k := m) (by omega)
              obtain ⟨b', off', hAd', _, d1⟩ := StrsV.cell (SlV.mono (SlV.keep SB hbj) hbj.size) hlm
              subst hAd
              injection hAd' with hAd'
              injection hAd' with hA1 hA2 _
              subst hA1 hA2
              have hml : m < rl.length := by omega
              have hcm : cmpNm (rl[m]'hml) (rl[m + 1]'hlm) < 0 := srt_at P3.out hlm
              have hx1 := hRn.out (rl[m]'hml) (List.getElem_mem hml)
              have hx2 := hRn.out (rl[m + 1]'hlm) (List.getElem_mem hlm)
              clear P3 hRn SB
              generalize hcc : cmpNm (rl[m]'hml) (rl[m + 1]'hlm) = cm at hcm
              generalize rl[m]'hml = x1 at d0 hx1 hcc
              generalize rl[m + 1]'hlm = x2 at d1 hx2 hcc
              have q1 := cq (W := wj) fun V _ => r5_Compare_any (B x1) (B x2) V (by rw [Idn.size_B]; omega) (by rw [Idn.size_B]; omega)
              rw [Idn.L_B, Idn.L_B, hcc] at q1
              have hcm' : ¬ 0 ≤ cm := by omega
              have hw1 : wrap64 ((m : Int) + 1 - 1) = (m : Int) := by unfold wrap64; omega
              have hmlI : (m : Int) < (rl.length : Int) := by omega
              have i0 := cell_regrown d0
              have i1 := cell_regrown d1
              clear d0 d1 hcm hcc
              go_wp2_with fail
              refine wp_region_quiet_below (by kernel_rfl) (by kernel_rfl) ?_
              repeat (first | go_big_quiet_step ((go_at_call 32; exact q1 _ _)) | quiet_step ((go_at_call 32; exact q1 _ _)))
              refine wpQuiet_nil ?_
              intro _ hw'
              obtain ⟨⟨dq, osq⟩, hw''⟩ := hw'
              subst hw''
              have hb4 := below_regrown wj dq osq
              generalize grow (redrawn wj dq) osq = W4 at hb4 ⊢
              go_wp2_with fail
              go_roundw
              case rel => exact ⟨m + 1, by go_num, by omega, Below.on hbj hb4⟩
              case measure => simp [intOf]; omega
            · have hlmI : ¬ (m : Int) + 1 < (rl.length : Int) := by omega
              replace s0 := cell_later hbj s0
              replace s1 := cell_later hbj s1
              replace b1 := cell_later hbj b1
              replace b2 := cell_later hbj b2
              replace b3 := cell_later hbj b3
              clear P3 hRn SB
              go_wp2_with fail
              refine (kN1 wj hbbj).mono ?_
              rintro e w12 ⟨rfl, hb12⟩
              replace b1 := cell_later hb12 b1
              replace b2 := cell_later hb12 b2
              replace b3 := cell_later hb12 b3
              have hbb12 := Below.on hbbj hb12
              clear kN1 s0 s1
              by_cases hn0 : n2 = 0
              case neg =>
                have hn0b : (n2 != 0) = true := by simpa using hn0
                clear kR3 kF P4 b1 b2 b3
                go_wp2_with fail
                refine (ka1 w12 hbb12).mono ?_
                rintro e w13 ⟨rfl, hb13⟩
                go_wp2_with fail
                go_ret
                exact ⟨rfl, hbk.trans ((Below.on hbb12 hb13).mono hbk.size)⟩
              have hfr := P4.out hn0
              subst hfr
              subst hn0
              clear P4
              go_wp2_with fail
              refine (kF w12 hbb12).mono ?_
              intro e w13 hret
              obtain ⟨A13, c13, rfl, S13, hb13⟩ := hret.open_
              replace b1 := cell_later hb13 b1
              replace b2 := cell_later hb13 b2
              have hbb13 := Below.on hbb12 hb13
              clear hret kF
              go_wp2_with fail
              refine (kR3 w13 hbb13).mono ?_
              intro e w14 hret
              obtain ⟨A14, c14, rfl, S14, hb14⟩ := hret.open_
              have hbb14 := Below.on hbb13 hb14
              have hLs2 := r_lists_any _ _ _ _ w14 (SlV.mono (SlV.keep S13 hb14) hb14.size) S14 hRl2 hRl2
              rw [decide_eq_true rfl] at hLs2
              clear hret kR3 b1 b2 b3 S13 S14
              go_wp2_with fail
              refine hLs2.mono ?_
              rintro e w15 ⟨rfl, hb15⟩
              have hbb15 := Below.on hbb14 hb15
              go_wp2_with fail
              refine (ka1 w15 hbb15).mono ?_
              rintro e w16 ⟨rfl, hb16⟩
              go_wp2_with fail
              go_ret
              exact ⟨rfl, hbk.trans ((Below.on hbb15 hb16).mono hbk.size)⟩
      | true =>
        have P5 := Lib.hid (P2.out rfl)
        clear P2
        go_wp2_with fail
        go_loopw [17] (fun i wb => ∃ j : Nat, j ≤ qs.length ∧ i = .int .i64 j ∧ Below w10.heap.size w10 wb) (fun i _ => qs.length - (intOf i).toNat)
        case atStart => exact ⟨0, Nat.zero_le _, rfl, Below.refl _ _⟩
        case round =>
          rename World => wb
          obtain ⟨j, hj, rfl, hb11⟩ := hrel
          have hbb := Below.on hb20 hb11
          have SB := SlV.mono (SlV.keep S8 hb11) hb11.size
          replace s0 := cell_later hb11 s0
          replace s1 := cell_later hb11 s1
          replace b0 := cell_later hb11 b0
          replace b1 := cell_later hb11 b1
          replace b2 := cell_later hb11 b2
          replace b3 := cell_later hb11 b3
          by_cases hlj : j < qs.length
          · have hljI : (j : Int) < (qs.length : Int) := by omega
            have hjl : j < l.length := by omega
            obtain ⟨b, off, va, hAd, _, d0, d1, hva⟩ := EntsV.cell (EntsV.mono (EntsV.keep hQ10 hb11) hb11.size) hjl
            subst hAd
            obtain ⟨Av, cv, rfl, _⟩ := SlV.shape hva
            have hli := hLt.out j hjl
            have heq := P5.out _ (List.getElem_mem hjl)
            have kc := fun W (hW : Below wb.heap.size wb W) => contains11_any _ rl l[j].1 W (SlV.mono (SlV.keep SB hW) hW.size) (by omega)
            have kb := fun W (hW : Below wb.heap.size wb W) => kB1 l[j].1 _ l[j].2 hli W (Below.on hbb hW) (AttsV.mono (AttsV.keep hva hW) hW.size)
            rw [heq] at kc
            generalize l[j] = x at *
            obtain ⟨xn, xa⟩ := x
            dsimp only at d0 d1 kc kb hva
            generalize (rGet xa (L a)).any bt = q at *
            have hqq : (q != q) = false := by cases q <;> rfl
            have q1 := cq (W := wb) kc
            have q2 := cq (W := wb) kb
            have i0 := cell_regrown s0
            have i1 := cell_regrown s1
            have i2 := cell_regrown b0
            have i3 := cell_regrown b1
            have i4 := cell_regrown b2
            have i5 := cell_regrown b3
            have i6 := cell_regrown d0
            have i7 := cell_regrown d1
            clear kc kb heq hli hva d0 d1 s0 s1 b0 b1 b2 b3 P5 P3 P4 hLt kR3 kF kN1 kB1 ka1 hQ10 SB S8 hRn
            go_wp2_with fail
            refine wp_region_quiet_below (by kernel_rfl) (by kernel_rfl) ?_
            repeat (first | go_big_quiet_step ((first | (go_at_call 30; exact q1 _ _) | (go_at_call 31; exact q2 _ _))) | quiet_step ((first | (go_at_call 30; exact q1 _ _) | (go_at_call 31; exact q2 _ _))))
            refine wpQuiet_nil ?_
            intro _ hw'
            obtain ⟨⟨dq, osq⟩, hw''⟩ := hw'
            subst hw''
            have hb4 := below_regrown wb dq osq
            generalize grow (redrawn wb dq) osq = W4 at hb4 ⊢
            go_wp2_with fail
            go_roundw
            case rel => exact ⟨j + 1, by omega, by go_num, Below.on hb11 hb4⟩
            case measure => simp [intOf]; omega
          · have hljI : ¬ (j : Int) < (qs.length : Int) := by omega
            clear kB1 P5 hQ10 S8 b0
            go_wp2_with fail
            go_loopw [18] (fun i wj => ∃ m : Nat, i = .int .i64 ((m : Int) + 1) ∧ m ≤ rl.length ∧ Below wb.heap.size wb wj) (fun i _ => rl.length + 1 - (intOf i).toNat)
            case atStart => exact ⟨0, rfl, Nat.zero_le _, Below.refl _ _⟩
            case round =>
              rename World => wj
              obtain ⟨m, rfl, hm, hbj⟩ := hrel
              have hbbj := Below.on hbb hbj
              by_cases hlm : m + 1 < rl.length
              · have hlmI : (m : Int) + 1 < (rl.length : Int) := by omega
                clear P4 kR3 kF kN1 ka1 s0 s1 b1 b2 b3
                obtain ⟨b, off, hAd, _, d0⟩ := StrsV.cell (SlV.mono (SlV.keep SB hbj) hbj.size) (k := m) (by omega)
                obtain ⟨b', off', hAd', _, d1⟩ := StrsV.cell (SlV.mono (SlV.keep SB hbj) hbj.size) hlm
                subst hAd
                injection hAd' with hAd'
                injection hAd' with hA1 hA2 _
                subst hA1 hA2
                have hml : m < rl.length := by omega
                have hcm : cmpNm (rl[m]'hml) (rl[m + 1]'hlm) < 0 := srt_at P3.out hlm
                have hx1 := hRn.out (rl[m]'hml) (List.getElem_mem hml)
                have hx2 := hRn.out (rl[m + 1]'hlm) (List.getElem_mem hlm)
                clear P3 hRn SB
                generalize hcc : cmpNm (rl[m]'hml) (rl[m + 1]'hlm) = cm at hcm
                generalize rl[m]'hml = x1 at d0 hx1 hcc
                generalize rl[m + 1]'hlm = x2 at d1 hx2 hcc
                have q1 := cq (W := wj) fun V _ => r5_Compare_any (B x1) (B x2) V (by rw [Idn.size_B]; omega) (by rw [Idn.size_B]; omega)
                rw [Idn.L_B, Idn.L_B, hcc] at q1
                have hcm' : ¬ 0 ≤ cm := by omega
                have hw1 : wrap64 ((m : Int) + 1 - 1) = (m : Int) := by unfold wrap64; omega
                have hmlI : (m : Int) < (rl.length : Int) := by omega
                have i0 := cell_regrown d0
                have i1 := cell_regrown d1
                clear d0 d1 hcm hcc
                go_wp2_with fail
                refine wp_region_quiet_below (by kernel_rfl) (by kernel_rfl) ?_
                repeat (first | go_big_quiet_step ((go_at_call 32; exact q1 _ _)) | quiet_step ((go_at_call 32; exact q1 _ _)))
                refine wpQuiet_nil ?_
                intro _ hw'
                obtain ⟨⟨dq, osq⟩, hw''⟩ := hw'
                subst hw''
                have hb4 := below_regrown wj dq osq
                generalize grow (redrawn wj dq) osq = W4 at hb4 ⊢
                go_wp2_with fail
                go_roundw
                case rel => exact ⟨m + 1, by go_num, by omega, Below.on hbj hb4⟩
                case measure => simp [intOf]; omega
              · have hlmI : ¬ (m : Int) + 1 < (rl.length : Int) := by omega
                replace s0 := cell_later hbj s0
                replace s1 := cell_later hbj s1
                replace b1 := cell_later hbj b1
                replace b2 := cell_later hbj b2
                replace b3 := cell_later hbj b3
                clear P3 hRn SB
                go_wp2_with fail
                refine (kN1 wj hbbj).mono ?_
                rintro e w12 ⟨rfl, hb12⟩
                replace b1 := cell_later hb12 b1
                replace b2 := cell_later hb12 b2
                replace b3 := cell_later hb12 b3
                have hbb12 := Below.on hbbj hb12
                clear kN1 s0 s1
                by_cases hn0 : n2 = 0
                case neg =>
                  have hn0b : (n2 != 0) = true := by simpa using hn0
                  clear kR3 kF P4 b1 b2 b3
                  go_wp2_with fail
                  refine (ka1 w12 hbb12).mono ?_
                  rintro e w13 ⟨rfl, hb13⟩
                  go_wp2_with fail
                  go_ret
                  exact ⟨rfl, hbk.trans ((Below.on hbb12 hb13).mono hbk.size)⟩
                have hfr := P4.out hn0
                subst hfr
                subst hn0
                clear P4
                go_wp2_with fail
                refine (kF w12 hbb12).mono ?_
                intro e w13 hret
                obtain ⟨A13, c13, rfl, S13, hb13⟩ := hret.open_
                replace b1 := cell_later hb13 b1
                replace b2 := cell_later hb13 b2
                have hbb13 := Below.on hbb12 hb13
                clear hret kF
                go_wp2_with fail
                refine (kR3 w13 hbb13).mono ?_
                intro e w14 hret
                obtain ⟨A14, c14, rfl, S14, hb14⟩ := hret.open_
                have hbb14 := Below.on hbb13 hb14
                have hLs2 := r_lists_any _ _ _ _ w14 (SlV.mono (SlV.keep S13 hb14) hb14.size) S14 hRl2 hRl2
                rw [decide_eq_true rfl] at hLs2
                clear hret kR3 b1 b2 b3 S13 S14
                go_wp2_with fail
                refine hLs2.mono ?_
                rintro e w15 ⟨rfl, hb15⟩
                have hbb15 := Below.on hbb14 hb15
                go_wp2_with fail
                refine (ka1 w15 hbb15).mono ?_
                rintro e w16 ⟨rfl, hb16⟩
                go_wp2_with fail
                go_ret
                exact ⟨rfl, hbk.trans ((Below.on hbb15 hb16).mono hbk.size)⟩
end Go.Proofs.YtgjllfonmgfhgaaGreatDoor
/- IndexAgrees: the contract as the row asks it, the statement, the card. -/
namespace Go.Proofs.YtgjllfonmgfhgaaGreatDoor
open Go.RowKit Go.Sort Go.Shelf Go.ChangeShapes Go.WideShapes Go.ChangeAt Go.ChangeMaps
theorem laid_eqIA : Rows.indexAgreesUptoRow.laid = laidL := by
  unfold laidL
  rw [← pow_eq, ← acc_eq, ← first_eq, ← case_eq]
  rfl
set_option maxRecDepth 100000 in
theorem cIA_contract (F : Stop.Interp) (H : Type) (enc : TypeId × Value → H) (W : World) (base : Nat) (args : Array Value) (ds gs : List (DataW H)) (before : List MemPlace)
    (hval : ∀ (j : Nat) t v, Tryz.f5.params[j]? = some t → args[j]? = some v → Value.okWide Tryz.prog W .any base t v)
    (hW : DataW.Whole enc Tryz.prog Tryz.f5.params.toList Rows.indexAgreesSpec.vars false W args.toList ds gs before) (hL : laidMet Tryz.prog laidL W) (hsh : W.ShapedOpen Tryz.prog) (hk : Rows.uptoSmall H (ds ++ gs) = true) :
    Calls Tryz.prog 5 args W fun e W' => ∃ v, e = .returned v ∧ ((Rows.OpenSpec.upto Rows.indexAgreesSpec).at F).post enc Tryz.prog Tryz.f5 false true false false W args v W' := by
  have hW' := hW
  obtain ⟨p, q, hA0, hV0, rfl, _, _⟩ := hW
  have hA : DataW.TrodAll enc Tryz.prog W 0 (fun _ => true) true Tryz.f5.params.toList args.toList ds p := hA0
  rw [Tryz.params5] at hA hval
  obtain ⟨v0, v1, v2, d0, d1, d2, p0, p1, p2, rfl, rfl, rfl, h0, h1, h2⟩ := trodAll_three hA
  obtain ⟨rfl, rfl⟩ := trodVars_none hV0
  have hB := bk_bound hk
  have hb0 := hB d0 (by simp)
  have hb1 := hB d1 (by simp)
  have hb2 := hB d2 (by simp)
  obtain ⟨s0, hS0, hg0⟩ := schema_openB (hval 0 25 v0 rfl rfl) h0
  obtain ⟨l1, hL1, hg1⟩ := strings_openB (hval 1 26 v1 rfl rfl) h1
  obtain ⟨ev2, es2, a2, lo2, hi2, rfl, hL2, hc2, ha2, hlo2, hhi2⟩ := ask_openB (hval 2 63 v2 rfl rfl) h2
  clear hA0 hV0 hval
  simp only [List.append_nil, List.append_assoc] at hW'
  have hlt : ∀ x ∈ p0 ++ (p1 ++ p2), x.block < W.heap.size := fun x hx => by simpa using hW'.lt x (by simpa using hx)
  obtain ⟨hE, hU⟩ := env_of hL hsh
  refine (indexAgrees_any v0 s0 v1 l1 ev2 es2 a2 lo2 hi2 W hS0 (hg0.mono hb0) hL1 (hg1.mono hb1) hL2 (Nat.le_trans hc2.1 hb2) (fun e he => (hc2.2 e he).mono hb2) (Nat.le_trans ha2 hb2) (Nat.le_trans hlo2 hb2) (Nat.le_trans hhi2 hb2) hE hU).mono ?_
  rintro e W' ⟨rfl, bel⟩
  have e1 : ((Rows.OpenSpec.upto Rows.indexAgreesSpec).at F).fn H ([d0, d1, d2] ++ []) = { results := [.lit (.bool true)], args := [d0, d1, d2] } := rfl
  refine ⟨_, rfl, _, _, _, [], (p0 ++ (p1 ++ p2)), [], hW', ?_, ?_, ?_, bel.frame _, fun h => by cases h⟩
  · rw [e1]; exact trodAll_mk1 (shut_bool Tryz.underlying4 _)
  · rw [e1]; exact trodAll_mk3 (Below.trod laidOut (by kernel_rfl) (of_decide_eq_true (by kernel_rfl)) h0 bel (fun x hx => hlt x (List.mem_append_left _ hx))) (Below.trod laidOut (by kernel_rfl) (of_decide_eq_true (by kernel_rfl)) h1 bel (fun x hx => hlt x (List.mem_append_right _ (List.mem_append_left _ hx)))) (Below.trod laidOut (by kernel_rfl) (of_decide_eq_true (by kernel_rfl)) h2 bel (fun x hx => hlt x (List.mem_append_right _ (List.mem_append_right _ hx))))
  · rw [e1]; rfl
theorem noHandleIA {W : World} (h : laidMetH Tryz.prog Rows.indexAgreesUptoRow.laid W) : laidMet Tryz.prog laidL W := by
  have e : (Rows.indexAgreesUptoRow.laid.filter fun x => x.2.handleName?.isSome) = [] := by kernel_rfl
  unfold laidMetH at h
  rw [e] at h
  rw [← laid_eqIA]
  exact h
theorem laid_metIA (os : Os) (args : Array Value) : laidMet Tryz.prog Rows.indexAgreesUptoRow.laid ((laidWorld os).forCall (fun _ _ => 0) ⟨#[], args, []⟩).memory := by
  rw [laid_eqIA]
  exact laid_metW os args
theorem witness_rowIA (os : Os) {H : Type} (enc : TypeId × Value → H) :
    (Rows.OpenSpec.upto Rows.indexAgreesSpec).preRow enc Tryz.prog Tryz.f5 Rows.indexAgreesUptoRow.domain false Rows.indexAgreesUptoRow.laid ((laidWorld os).forCall (fun _ _ => 0) ⟨#[], #[.agg #[.slice none 0 0, .slice none 0 0], .slice none 0 0, .agg #[.slice none 0 0, .string ⟨#[]⟩, .string ⟨#[]⟩, .string ⟨#[]⟩]], []⟩).memory #[.agg #[.slice none 0 0, .slice none 0 0], .slice none 0 0, .agg #[.slice none 0 0, .string ⟨#[]⟩, .string ⟨#[]⟩, .string ⟨#[]⟩]] := by
  have hw : (DataW.whole enc Tryz.prog ((laidWorld os).forCall (fun _ _ => 0) ⟨#[], #[.agg #[.slice none 0 0, .slice none 0 0], .slice none 0 0, .agg #[.slice none 0 0, .string ⟨#[]⟩, .string ⟨#[]⟩, .string ⟨#[]⟩]], []⟩).memory Tryz.f5.params.toList (Rows.OpenSpec.upto Rows.indexAgreesSpec).vars false #[Value.agg #[.slice none 0 0, .slice none 0 0], .slice none 0 0, .agg #[.slice none 0 0, .string ⟨#[]⟩, .string ⟨#[]⟩, .string ⟨#[]⟩]].toList 8).map (fun x => (x.1, x.2.1)) =
      some ([.agg [.nil, .nil], .nil, .agg [.nil, .lit (.string []), .lit (.string []), .lit (.string [])]], []) := by kernel_rfl
  obtain ⟨⟨x1, x2, x3⟩, hx, hx1⟩ := Option.map_eq_some_iff.1 hw
  simp only [Prod.mk.injEq] at hx1
  obtain ⟨rfl, rfl⟩ := hx1
  exact OpenSpec.preRow_of_cond 8 hx (by kernel_rfl) (fun k hk => by cases hk; kernel_rfl) (by kernel_rfl) (laid_metIA os _)
set_option maxRecDepth 100000 in
theorem liftedIA (os : Os) (started : os.Started) (H : Type) (enc : TypeId × Value → H) (F : Stop.Interp) :
    ReturnsInHanded {} Tryz.checked os 5 .any ((Rows.OpenSpec.upto Rows.indexAgreesSpec).preRow enc Tryz.prog Tryz.f5 Rows.indexAgreesUptoRow.domain false Rows.indexAgreesUptoRow.laid) (((Rows.OpenSpec.upto Rows.indexAgreesSpec).at F).post enc Tryz.prog Tryz.f5 false true false false) := by
  refine returnsInHanded_of_row (C := Tryz.checked) (s := (Rows.OpenSpec.upto Rows.indexAgreesSpec)) own started (by kernel_rfl) Tryz.func5
    (witness_row_atRef (enc := enc) (C := Tryz.checked) false (laidWorld os) #[.agg #[.slice none 0 0, .slice none 0 0], .slice none 0 0, .agg #[.slice none 0 0, .string ⟨#[]⟩, .string ⟨#[]⟩, .string ⟨#[]⟩]] rfl (by kernel_rfl) (by kernel_rfl) (by kernel_rfl) (witness_rowIA os enc)) ?_
  intro W base args ds gs before hval hW _ hcond _ hL hsh _
  exact cIA_contract F H enc W base args ds gs before hval hW (noHandleIA hL) hsh (hcond _ rfl)
end Go.Proofs.YtgjllfonmgfhgaaGreatDoor
/- IndexAgrees: the statement. -/
namespace Go.Proofs.YtgjllfonmgfhgaaGreatDoor
open Go.RowKit Go.Sort Go.Shelf Go.ChangeShapes Go.WideShapes Go.ChangeAt Go.ChangeMaps
set_option maxHeartbeats 8000000 in
theorem closedIA : joinedFacts Tryz.pinned.checked.prog 5 Tryz.f5 (Rows.OpenSpec.upto Rows.indexAgreesSpec).bare Rows.indexAgreesUptoRow = true := by
  unfold joinedFacts
  simp only [Bool.and_eq_true]
  repeat' with_reducible apply And.intro
  all_goals (as_aux_lemma => kernel_rfl)
theorem saidIA : Rows.IndexAgreesUptoSaid :=
  OpenClaim.holds_of_cond 5 Tryz.f5 rfl rfl rfl rfl rfl rfl rfl ⟨rfl, rfl, rfl, rfl, rfl⟩ rfl rfl rfl rfl rfl (by kernel_rfl) Tryz.func5 closedIA
    (of_decide_eq_true (by kernel_rfl)) (by unfold Func.isWrapper; first | (rw [if_pos (by decide +kernel)]; kernel_rfl) | (rw [if_neg (by decide +kernel)]; exact ⟨rfl, rfl⟩))
    (fun os started H enc _ F => by rw [OpenClaim.pre_eq_preRow]; exact liftedIA os started H enc F)
end Go.Proofs.YtgjllfonmgfhgaaGreatDoor
/- IndexAgrees: the card. -/
namespace Go.Proofs.YtgjllfonmgfhgaaGreatDoor
open Go.RowKit Go.Sort Go.Shelf Go.ChangeShapes Go.WideShapes Go.ChangeAt Go.ChangeMaps
theorem plainIA (f : FuncId) (fn : Func) (hf : Tryz.pinned.checked.prog.funcNamed "identity/identitylaw11.IndexAgrees" = some f) (hfn : Tryz.pinned.checked.prog.funcs[f]? = some fn) :
    true = Tryz.pinned.checked.prog.looks [] ∧ ∀ (j : Nat) t, fn.params[j]? = some t → Tryz.pinned.checked.prog.wantsStandIn t = false := by
  obtain rfl : f = 5 := Option.some.inj ((show Tryz.prog.funcNamed "identity/identitylaw11.IndexAgrees" = some 5 by kernel_rfl).symm.trans hf) |>.symm
  obtain rfl : fn = Tryz.f5 := (Option.some.inj (Tryz.func5.symm.trans hfn)).symm
  refine ⟨by kernel_rfl, fun j t ht => ?_⟩
  rw [Tryz.params5] at ht
  have hm := Array.mem_of_getElem? ht
  simp at hm
  rcases hm with rfl | rfl | rfl
  · exact (show Tryz.prog.wantsStandIn 25 = false by kernel_rfl)
  · exact (show Tryz.prog.wantsStandIn 26 = false by kernel_rfl)
  · exact (show Tryz.prog.wantsStandIn 63 = false by kernel_rfl)
theorem indexAgrees_card : Rows.IndexAgreesUptoCardSaid :=
  Claim7.holds_tied_plain_at .later [] _ _ _ _ saidIA (fun _ h => by cases h) (by kernel_rfl) (fun _ h => by cases h) indexAgreesUpto_row_tie rfl ⟨rfl, rfl⟩ (by kernel_rfl) rfl plainIA (by kernel_rfl)
#print axioms indexAgrees_card
end Go.Proofs.YtgjllfonmgfhgaaGreatDoor
