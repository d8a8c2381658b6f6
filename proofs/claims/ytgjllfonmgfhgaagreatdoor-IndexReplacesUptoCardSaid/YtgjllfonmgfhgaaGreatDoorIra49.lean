/- Part 49 of the proof that laws of identitylaw11 return true at every argument within the bound: the package variables hold what the program lays; nothing else is asked. -/
import Derived.Test.YtgjllfonmgfhgaaGreatDoorIra39
import Derived.Test.YtgjllfonmgfhgaaGreatDoorIra47
import Derived.Test.YtgjllfonmgfhgaaGreatDoorIra48
import Derived.ChangeMaps5
set_option linter.unusedVariables false
set_option linter.unusedSimpArgs false
/- Plain laws of identitylaw11: all that IndexReplaces asks. -/
namespace Go.Proofs.YtgjllfonmgfhgaaGreatDoor
open Go.RowKit Go.Sort
open Idn (L B Bs)
theorem put_ok {es : List IxE} {n : Bs} {A : List Idn.Att} (h : (ixPut es n A).1 = 0) : validN n = true ∧ (ixPut es n A).2 = insE n (Idn.rSorted A) es := by
  unfold ixPut at h ⊢
  by_cases h1 : (n.isEmpty || !validN n) = true
  · rw [if_pos h1] at h; cases h
  · have hv : validN n = true := by
      have : (n.isEmpty || !validN n) = false := by simpa using h1
      rw [Bool.or_eq_false_iff] at this
      simpa using this.2
    rw [if_neg h1] at h ⊢
    by_cases h2 : (Idn.aCheck A != 0) = true
    · rw [if_pos h2] at h
      simp only [bne_iff_ne, ne_eq] at h2
      exact absurd h h2
    · rw [if_neg h2] at h ⊢
      by_cases h3 : (!hasE es n && decide (256 ≤ es.length)) = true
      · rw [if_pos h3] at h; cases h
      · rw [if_neg h3]; exact ⟨hv, rfl⟩
theorem puts_has {l : List EntP} (hl : l.length ≤ 255) {n : Bs} (h : hasE (putsE l []) n = true) : ∃ e ∈ l, e.1 = n := by
  have hS : SamE (stoE l []) (putsE l []) := puts_law l [] [] SamE.nil (by simpa using hl)
  obtain ⟨e, he, h1⟩ := List.mem_map.1 ((hS.has n).1 h)
  rw [← storedF_eq] at he
  rcases stored_sub l [] e he with h2 | h2
  · exact ⟨e, h2, h1⟩
  · simp at h2
theorem puts_ok {l : List EntP} (hl : l.length ≤ 255) : OkE (putsE l []) := (puts_law l [] [] SamE.nil (by simpa using hl)).ok
theorem range_snd (s : Idn.Sch) (idx : List Bs) (es : List IxE) (a low hi : Bs) : (ixRange s idx es a low hi).2 = idx.contains (Idn.lower a) := by
  unfold ixRange
  cases idx.contains (Idn.lower a) <;> rfl
theorem replaces_all {s : Idn.Sch} {idx : List Bs} {l : List EntP} (hl : l.length ≤ 255) {E0 : List IxE} (h0 : E0 = putsE l []) {n a : Bs} {A : List Idn.Att} (hi : idx.contains (Idn.lower a) = true) (hz : (ixPut E0 n A).1 = 0) :
    ((ixRange s idx (ixPut E0 n A).2 a [] []).1.contains n = (rGet A a).any fun v => decide ((sNorm s a v).2 = 0)) ∧ (∀ x ∈ rGet A a, (sNorm s a x).2 = 0 → (ixFind s idx (ixPut E0 n A).2 a x).1.contains n = true) ∧
    (ixRange s idx (ixDrop (ixPut E0 n A).2 n) a [] []).1.contains n = false ∧ (ixDrop (ixPut E0 n A).2 n).length ≤ E0.length ∧ ((l.any fun e => decide (e.1 = n)) = false → ixDrop (ixPut E0 n A).2 n = E0) := by
  obtain ⟨hv, he⟩ := put_ok hz
  have hok : OkE E0 := by rw [h0]; exact puts_ok hl
  rw [he, drop_ins hok hv]
  refine ⟨?_, fun x hx hx0 => ?_, ?_, drop_len _ _, fun ht => ?_⟩
  · rw [rng_ins hok hv _ hi, get_sorted]
  · rw [List.contains_iff_mem]
    exact find_ins hok hv hi (by rw [get_sorted]; exact hx) hx0
  · apply Bool.eq_false_iff.2
    intro h
    rw [List.contains_iff_mem] at h
    unfold ixRange at h
    rw [hi, if_neg (by decide)] at h
    exact drop_gone E0 n _ h
  · refine drop_none ?_
    apply Bool.eq_false_iff.2
    intro h
    rw [h0] at h
    obtain ⟨e, h1, h2⟩ := puts_has hl h
    rw [List.any_eq_false] at ht
    exact ht e h1 (by simp [h2])
end Go.Proofs.YtgjllfonmgfhgaaGreatDoor
/- law11: IndexReplaces. -/
namespace Go.Proofs.YtgjllfonmgfhgaaGreatDoor
open Go.RowKit Go.Sort
open Idn (L B Bs drop_L take_L size_L)
set_option maxHeartbeats 16000000 in
set_option maxRecDepth 100000 in
theorem indexReplaces_any (sv0 : Value) (s : Idn.Sch) (lv : Value) (l : List EntP) (nm : ByteArray) (ea : Value) (A : List Idn.Att) (w : World) (hS : SchV w w.heap.size sv0 s) (hg : GSch s 1048576) (hV : EntsV w w.heap.size lv l) (hel : l.length ≤ 1048576) (hee : ∀ e ∈ l, GE e 1048576) (hA : AttsV w w.heap.size ea A) (hAg : GAs A 1048576) (hn : nm.size ≤ 1048576) (hE : Env w) (hU : EnvU w) :
    Calls Tryz.prog 6 #[sv0, lv, .agg #[.string nm, ea]] w fun e w' => e = .returned (.bool true) ∧ Below w.heap.size w w' := by
  have hEv : ∀ W, Below w.heap.size w W → Env W ∧ EnvU W := fun W hW => ⟨hE.keep hW, hU.keep hW⟩
  have hssm : SSm s := hg.ssm (by decide)
  have kb := fun W (hW : Below w.heap.size w W) => brief11_any sv0 s W (SchV.mono (SchV.keep hS hW) hW.size) ⟨by have := hg.1.1; omega, by have := hg.2.1; omega⟩
  have kr := fun W (hW : Below w.heap.size w W) => ready11_no lv l W (EntsV.mono (EntsV.keep hV hW) hW.size) (ge_elen hel hee)
  have kl := fun W (hW : Below w.heap.size w W) => light_any nm ea A W (AttsV.mono (AttsV.keep hA hW) hW.size) ⟨by have := hAg.1; omega, fun a ha => by have := (hAg.2 a ha).2.1; omega⟩ (by omega)
  have ka := fun W (hW : Below w.heap.size w W) => alive11_any W (hE.keep hW) (hU.keep hW)
  have kn := fun (hbs : BriefS s) W (hW : Below w.heap.size w W) (nv : Value) (hnv : StrsV W W.heap.size nv [clsN]) => ixNew_any sv0 nv s [clsN] W (SchV.mono (SchV.keep hS hW) hW.size) hssm (by have := hbs.1.1; omega) (by have := hbs.2.1; omega) (fun c hc => by obtain ⟨_, _, q1, q2⟩ := hg.2.2 c hc; exact ⟨by have := q1.1; omega, by have := q2.1; omega⟩) hnv (by decide) (by decide)
  have kG := fun (hL : LightE nm A) W (hW : Below w.heap.size w W) => r6_Get_any ea A ⟨#[99, 108, 97, 115, 115]⟩ W (AttsV.mono (AttsV.keep hA hW) hW.size) (light_asm7 hL) (by decide)
  have kN := fun (x : Bs) (hx : x.length ≤ 300) W (hW : Below w.heap.size w W) => schNormal_any sv0 s ⟨#[99, 108, 97, 115, 115]⟩ (B x) W (SchV.mono (SchV.keep hS hW) hW.size) hssm (hE.keep hW) (hU.keep hW) (by decide) (by rw [Idn.size_B]; omega)
  simp only [Idn.L_B] at kN
  obtain ⟨sa, sb, rfl, hT, hC⟩ := hS
  obtain ⟨A1, c1, rfl, _⟩ := SlV.shape hT
  obtain ⟨A2, c2, rfl, _⟩ := SlV.shape hC
  obtain ⟨A3, c3, rfl, _⟩ := SlV.shape hV
  obtain ⟨A4, c4, rfl, _⟩ := SlV.shape hA
  obtain ⟨en, rfl⟩ : ∃ en : Bs, nm = B en := ⟨L nm, (Idn.B_L nm).symm⟩
  clear hT hC hg hee hel hAg hn
  go_enter Tryz.func6, Tryz.ntmps6
  go_upto_region 1 with fail
  with_reducible refine gen2 (R := fun W => Code.wp Tryz.prog _ _ _ W) ?_
  intro W hbW _ hc1 hc2
  have s0 : W.cell? ⟨w.heap.size, 0, none⟩ = some (.slice A1 s.types.length c1) := hc1 0 _ rfl
  have s1 : W.cell? ⟨w.heap.size, 1, none⟩ = some (.slice A2 s.classes.length c2) := hc1 1 _ rfl
  have e0 : W.cell? ⟨w.heap.size + 1, 0, none⟩ = some (.string (B en)) := hc2 0 _ rfl
  have e1 : W.cell? ⟨w.heap.size + 1, 1, none⟩ = some (.slice A4 A.length c4) := hc2 1 _ rfl
  clear hc1 hc2
  go_wp2_with fail
  refine (kb W hbW).mono ?_
  rintro e w1 ⟨r1, rfl, hr1, hb1⟩
  have hl1 := Cls.of_below hb1
  replace s0 := hl1.cell s0
  replace s1 := hl1.cell s1
  replace e0 := hl1.cell e0
  replace e1 := hl1.cell e1
  have hbw1 := hbW.trans (hb1.mono hbW.size)
  have H1 := Lib.hid hr1
  clear kb hb1 hr1 hbW hl1
  cases r1
  case false =>
    clear kr kl kn kG kN H1 s0 s1 e0 e1
    go_wp2_with fail
    refine (ka w1 hbw1).mono ?_
    rintro e w9 ⟨rfl, hb9⟩
    go_wp2_with fail
    go_ret
    exact ⟨rfl, hbw1.trans (hb9.mono hbw1.size)⟩
  have G1 := Lib.hid (H1.out rfl)
  clear H1
  go_wp2_with fail
  refine (kr w1 hbw1).mono ?_
  rintro e w2 ⟨r2, rfl, hr2, hb2⟩
  have hl2 := Cls.of_below hb2
  replace s0 := hl2.cell s0
  replace s1 := hl2.cell s1
  replace e0 := hl2.cell e0
  replace e1 := hl2.cell e1
  have hbw2 := hbw1.trans (hb2.mono hbw1.size)
  have H2 := Lib.hid hr2
  clear kr hb2 hr2 hbw1 hl2
  cases r2
  case false =>
    clear kl kn kG kN H2 G1 s0 s1 e0 e1
    go_wp2_with fail
    refine (ka w2 hbw2).mono ?_
    rintro e w9 ⟨rfl, hb9⟩
    go_wp2_with fail
    go_ret
    exact ⟨rfl, hbw2.trans (hb9.mono hbw2.size)⟩
  have G2 := Lib.hid (H2.out rfl)
  clear H2
  go_wp2_with fail
  refine (kl w2 hbw2).mono ?_
  rintro e w3 ⟨r3, rfl, hr3, hb3⟩
  have hl3 := Cls.of_below hb3
  replace s0 := hl3.cell s0
  replace s1 := hl3.cell s1
  replace e0 := hl3.cell e0
  replace e1 := hl3.cell e1
  have hbw3 := hbw2.trans (hb3.mono hbw2.size)
  have H3 := Lib.hid hr3
  clear kl hb3 hr3 hbw2 hl3
  cases r3
  case false =>
    clear kn kG kN H3 G1 G2 s0 s1 e0 e1
    go_wp2_with fail
    refine (ka w3 hbw3).mono ?_
    rintro e w9 ⟨rfl, hb9⟩
    go_wp2_with fail
    go_ret
    exact ⟨rfl, hbw3.trans (hb9.mono hbw3.size)⟩
  have G3 := Lib.hid (H3.out rfl)
  clear H3
  replace kn := kn G1.out
  replace kG := kG G3.out
  have hlE : ∀ (k : Nat) (hk : k < l.length), LightE (B l[k].1) l[k].2 := fun k hk => G2.out.2 _ (List.getElem_mem hk)
  have hl10 := Lib.hid G2.out.1
  have hl9 := G2.out.1
  have hvE : Hid (∀ x ∈ rGet A clsN, x.length ≤ 300) := rGet_all (p := fun x => x.length ≤ 300) (fun a ha x hx => (G3.out.2.2 a ha).2.2 x hx) clsN
  have hvL : Hid ((rGet A clsN).length ≤ 1000000000) := rGet_len (light_asm7 G3.out) clsN
  clear G1 G2
  -- New
  go_wp2_with fail
  with_reducible refine genS (R := fun W => Calls Tryz.prog 13 _ W _) [clsN] ?_ ?_ ?_
  · rfl
  · unfold maxLen; decide
  intro W4 hW4 hn4
  have hbw4 := hbw3.trans (hW4.mono hbw3.size)
  refine (kn W4 hbw4 _ hn4).mono ?_
  have hGz := fun h => Lib.hid (nwE_zero (s := s) (ns := [clsN]) hssm h)
  rintro e w5 ⟨hb5, ⟨hz, px, eb, vb, hs, ta, cb, ts, rfl, hhs, hI⟩ | ⟨hz, rfl⟩⟩
  case inr =>
    have hbw5 := hbw4.trans (hb5.mono hbw4.size)
    generalize nwE s [clsN] = ec at *
    clear kn kG kN G3 s0 s1 e0 e1 hGz hn4
    go_wp2_with fail
    refine (ka w5 hbw5).mono ?_
    rintro e w6 ⟨rfl, hb6⟩
    go_wp2_with fail
    go_ret
    exact ⟨rfl, hbw5.trans (hb6.mono hbw5.size)⟩
  have hG0 := hGz hz
  have hl5 := (Cls.of_below hW4).trans (Cls.of_below hb5)
  replace s0 := hl5.cell s0
  replace s1 := hl5.cell s1
  replace e0 := hl5.cell e0
  replace e1 := hl5.cell e1
  have hbw5 := hbw4.trans (hb5.mono hbw4.size)
  have hhw : w.heap.size ≤ hs := Nat.le_trans hbw4.size hhs
  clear kn hb5 hbw4 hl5 hz hGz hhs hn4 hW4 hbw3
  have hV5 := EntsV.mono (EntsV.keep hV hbw5) hbw5.size
  have hA5 := AttsV.mono (AttsV.keep hA hbw5) hbw5.size
  clear hV
  -- the puts
  go_wp2_with fail
  go_loopw [9, 10] (fun tv i wr => ∃ (k : Nat) (th : Bool) (ek : List IxE) (g : Bs → Value) (G : Bs → Bs → Option Nat), k ≤ l.length ∧ tv = .bool th ∧ i = .int .i64 k ∧ Hid (th = (l.take k).any fun e => decide (e.1 = en)) ∧ IxV wr hs hs px s [clsN] ek ta cb eb vb g ts G ∧ Hid (GdI s [clsN] ek) ∧ ek.length ≤ k ∧ Below w.heap.size w wr ∧ Cls w5 wr ∧ Hid (putsE (l.drop k) ek = putsE l [])) (fun _ i _ => l.length - (intOf i).toNat)
  case atStart => exact ⟨0, false, [], _, _, Nat.zero_le _, rfl, rfl, rfl, hI, hG0, Nat.le_refl _, hbw5, Cls.refl _, rfl⟩
  case round =>
    obtain ⟨k, th, ek, g, G, hk, rfl, rfl, hth, hIk, hGk, hekl, hbk, hck, hinv⟩ := hrel
    by_cases hlt : k < l.length
    · have hltI : (k : Int) < (l.length : Int) := by omega
      replace e0 := hck.cell e0
      obtain ⟨b, off, va, hAd, _, d0, d1, hva⟩ := EntsV.cell (EntsV.mono (EntsV.keepK hV5 hck) hck.2) hlt
      subst hAd
      obtain ⟨Av, cv, rfl, _⟩ := SlV.shape hva
      have hli := hlE k hlt
      have hput := put11_any hIk hGk.out (by have := hl10.out; omega) hhw w hbk hEv l[k].1 (by have := hli.1; rw [Idn.size_B] at this; omega) _ l[k].2 hva (light_asm7 hli)
      have hst : Hid (putsE (l.drop (k + 1)) (ixPut ek l[k].1 l[k].2).2 = putsE l []) := by
        show _ = _
        rw [← hinv.out, List.drop_eq_getElem_cons hlt, putsE]
      have hth2 : Hid (((l.take (k + 1)).any fun e => decide (e.1 = en)) = (th || decide (l[k].1 = en))) := by
        show _ = _
        rw [List.take_succ_eq_append_getElem hlt, List.any_append, ← hth.out]
        simp
      have hel2 : (ixPut ek l[k].1 l[k].2).2.length ≤ k + 1 := Nat.le_trans (put_len hGk.out.ok _ _) (by omega)
      have hsb : ((B l[k].1).toList == (B en).toList) = decide (l[k].1 = en) := by rw [str_beq, Idn.L_B, Idn.L_B]
      have hall := hIk.allMap
      generalize ixPut ek l[k].1 l[k].2 = r at *
      obtain ⟨ri, re⟩ := r
      dsimp only at hput hst hel2
      generalize l[k] = x at *
      obtain ⟨xn, xa⟩ := x
      dsimp only at d0 d1 hput hva hsb hth2
      generalize decide (xn = en) = bq at *
      have d0' := Lib.hid d0
      clear hinv hli hva kG kN hth
      go_upto_region 13 with fail
      refine hput.mono ?_
      rintro e w7 ⟨rfl, g', G', hI', hG', hm, _, hb7, hc7⟩
      replace hG' := Lib.hid hG'
      clear hput hGk
      have i0 := cell_regrown (hc7.cell d0'.out)
      have i1 := cell_regrown (hc7.cell e0)
      have HT : ∀ q, th = q → Hid ((q || bq) = (l.take (k + 1)).any fun e => decide (e.1 = en)) := fun q hq => by show _ = _; rw [hth2.out, hq]
      have hck7 := hck.trans hc7
      clear hth2 hm d0 d1 e0
      cases th with
      | true =>
        have HT1 := HT _ rfl
        clear HT
        go_upto_region 13 with fail
        refine wp_region_quiet_below (by kernel_rfl) (by kernel_rfl) ?_
        repeat (first | go_big_quiet_step ((fail)) | quiet_step ((fail)))
        refine wpQuiet_nil ?_
        intro _ hw'
        obtain ⟨⟨dq, osq⟩, hw''⟩ := hw'
        subst hw''
        have hb8 := below_regrown w7 dq osq
        generalize grow (redrawn w7 dq) osq = W8 at hb8 ⊢
        go_wp2_with fail
        go_roundw
        case rel => exact ⟨k + 1, true, re, g', G', by omega, rfl, by go_num, HT1, hI'.keep hb8, hG', hel2, hb7.trans (hb8.mono hb7.size), hck7.trans (Cls.of_below hb8), hst⟩
        case measure => simp [intOf]; omega
      | false =>
        have HT1 := HT _ rfl
        clear HT
        go_upto_region 13 with fail
        refine wp_region_quiet_below (by kernel_rfl) (by kernel_rfl) ?_
        repeat (first | go_big_quiet_step ((fail)) | quiet_step ((fail)))
        refine wpQuiet_nil ?_
        intro _ hw'
        obtain ⟨⟨dq, osq⟩, hw''⟩ := hw'
        subst hw''
        have hb8 := below_regrown w7 dq osq
        generalize grow (redrawn w7 dq) osq = W8 at hb8 ⊢
        go_wp2_with fail
        go_roundw
        case rel => exact ⟨k + 1, bq, re, g', G', by omega, rfl, by go_num, HT1, hI'.keep hb8, hG', hel2, hb7.trans (hb8.mono hb7.size), hck7.trans (Cls.of_below hb8), hst⟩
        case measure => simp [intOf]; omega
    · have hltI : ¬ (k : Int) < (l.length : Int) := by omega
      have hE0 : Hid (ek = putsE l []) := by
        have := hinv.out
        rwa [List.drop_eq_nil_of_le (by omega), putsE] at this
      replace hth : Hid (th = l.any fun e => decide (e.1 = en)) := by
        have := hth.out
        rwa [List.take_of_length_le (by omega)] at this
      replace s0 := hck.cell s0
      replace s1 := hck.cell s1
      replace e0 := hck.cell e0
      replace e1 := hck.cell e1
      have hAk := AttsV.mono (AttsV.keepK hA5 hck) hck.2
      have hek10 : ek.length < 256 := by have := hl10.out; omega
      have hl255 : Hid (l.length ≤ 255) := by have := hl10.out; show _ ≤ _; omega
      have hq1 := rng11_any hIk hGk.out w hbk hbk.size hEv ⟨#[99, 108, 97, 115, 115]⟩ ⟨#[]⟩ ⟨#[]⟩ (by decide) (by decide) (by decide)
      have hR0 : (ixRange s ([clsN].map Idn.lower) ek (L ⟨#[99, 108, 97, 115, 115]⟩) (L ⟨#[]⟩) (L ⟨#[]⟩)).1.length ≤ 1000000000000 := by
        have := (range_ok (s := s) (idx := [clsN].map Idn.lower) hGk.out.ok clsN [] []).len hGk.out.ok
        exact Nat.le_trans this (by omega)
      clear hinv hV5 hlE hl10 hI hG0 hekl hck
      go_wp2_with fail
      refine hq1.mono ?_
      intro e w6 hret
      obtain ⟨A6, c6, rfl, S6, hb6⟩ := hret.open_
      have hl6 := Cls.of_below hb6
      replace s0 := hl6.cell s0
      replace s1 := hl6.cell s1
      replace e0 := hl6.cell e0
      replace e1 := hl6.cell e1
      have hbw6 := hbk.trans (hb6.mono hbk.size)
      have hI6 := hIk.keep hb6
      have hA6 := AttsV.mono (AttsV.keepK hAk hl6) hl6.2
      clear hq1 hret hb6 hl6 hIk hbk hAk
      have hLn := ixLen_any hI6 hGk.out
      go_wp2_with fail
      refine hLn.mono ?_
      rintro e _ ⟨rfl, rfl⟩
      clear hLn
      have hput := put11_any hI6 hGk.out hek10 hhw w hbw6 hEv en (by have := G3.out.1; rw [Idn.size_B] at this; omega) _ A hA6 (light_asm7 G3.out)
      have hall := hI6.allMap
      clear hA6
      by_cases hz : (ixPut ek en A).1 = 0
      case neg =>
        have hsame := put_err hz
        have hzI : ((ixPut ek en A).1 != 0) = true := by simpa using hz
        rw [hsame] at hput
        generalize (ixPut ek en A).1 = ri at *
        clear kG kN hth hE0 hl255 hsame hvE hvL s0 s1
        go_wp2_with fail
        refine hput.mono ?_
        rintro e w7 ⟨rfl, g', G', hI7, hG7, hm7, _, hb7, hc7⟩
        replace hG7 := Lib.hid hG7
        have hq2 := rng11_any hI7 hG7.out w hb7 hb7.size hEv ⟨#[99, 108, 97, 115, 115]⟩ ⟨#[]⟩ ⟨#[]⟩ (by decide) (by decide) (by decide)
        have S7 := SlV.mono (SlV.keepC S6 fun _ _ _ _ e => hc7.cell e) hc7.2
        clear hput S6 hc7 hm7 hI6 hall
        go_wp2_with fail
        refine hq2.mono ?_
        intro e w8 hret
        obtain ⟨A8, c8, rfl, S8, hb8⟩ := hret.open_
        have T8 := SlV.mono (SlV.keep S7 hb8) hb8.size
        have hb8' := hb7.trans (hb8.mono hb7.size)
        have hI8 := hI7.keep hb8
        clear hq2 hret hI7 S7 hb8
        have hLs := r_lists_any _ _ _ _ w8 T8 S8 hR0 hR0
        rw [decide_eq_true rfl] at hLs
        go_wp2_with fail
        refine hLs.mono ?_
        rintro e w9 ⟨rfl, hb9⟩
        have hLn2 := ixLen_any (hI8.keep hb9) hG7.out
        have hb9' := hb8'.trans (hb9.mono hb8'.size)
        clear hLs hI8 S8 T8 hb9
        go_wp2_with fail
        refine hLn2.mono ?_
        rintro e _ ⟨rfl, rfl⟩
        go_wp2_with fail
        refine (ka _ hb9').mono ?_
        rintro e w10 ⟨rfl, hb10⟩
        go_wp2_with fail
        go_ret
        exact ⟨rfl, hb9'.trans (hb10.mono hb9'.size)⟩
      obtain ⟨P1, P2, P3, P4, P5⟩ := replaces_all (s := s) (idx := [clsN].map Idn.lower) hl255.out hE0.out (n := en) (a := clsN) (A := A) cls_low hz
      have hGd := (hGk.out.put (n := en) (A := A) (by have := G3.out.1; rw [Idn.size_B] at this; omega) hek10)
      have hE1l := Nat.le_trans ((range_ok (s := s) (idx := [clsN].map Idn.lower) hGd.ok clsN [] []).len hGd.ok) hGd.len
      have hE2l := Nat.le_trans ((range_ok (s := s) (idx := [clsN].map Idn.lower) (hGd.drop en).ok clsN [] []).len (hGd.drop en).ok) (hGd.drop en).len
      have hF1l : ∀ x, (ixFind s ([clsN].map Idn.lower) (ixPut ek en A).2 clsN x).1.length ≤ 1000000000 := fun x => by
        have h : CdE (ixPut ek en A).2 (ixFind s ([clsN].map Idn.lower) (ixPut ek en A).2 clsN x).1 := by
          rw [← refFind_eq]
          unfold refFind
          split
          · exact CdE.nil _
          · rw [refRange_eq]; exact range_ok hGd.ok _ _ _
        have := h.len hGd.ok
        have := hGd.len
        omega
      rw [hz] at hput
      clear hGk hE0 hl255 hek10 hGd hz
      generalize (ixPut ek en A).2 = E1 at *
      replace P1 := Lib.hid P1
      replace P2 := Lib.hid P2
      replace P5 := Lib.hid P5
      replace hF1l := Lib.hid hF1l
      go_wp2_with fail
      refine hput.mono ?_
      rintro e w7 ⟨rfl, g', G', hI7, hG7, hm7, _, hb7, hc7⟩
      replace hG7 := Lib.hid hG7
      have hq2 := rng11_any hI7 hG7.out w hb7 hb7.size hEv ⟨#[99, 108, 97, 115, 115]⟩ ⟨#[]⟩ ⟨#[]⟩ (by decide) (by decide) (by decide)
      rw [show ixRange s ([clsN].map Idn.lower) E1 (L ⟨#[99, 108, 97, 115, 115]⟩) (L ⟨#[]⟩) (L ⟨#[]⟩) = ((ixRange s ([clsN].map Idn.lower) E1 clsN [] []).1, true) from Prod.ext rfl ((range_snd _ _ _ _ _ _).trans cls_low)] at hq2
      have S7 := SlV.mono (SlV.keepC S6 fun _ _ _ _ e => hc7.cell e) hc7.2
      replace s0 := hc7.cell s0
      replace s1 := hc7.cell s1
      replace e0 := hc7.cell e0
      replace e1 := hc7.cell e1
      clear hput S6 hc7 hm7 hI6 hall
      go_wp2_with fail
      refine hq2.mono ?_
      intro e w8 hret
      obtain ⟨A8, c8, rfl, S8, hb8⟩ := hret.open_
      dsimp only at S8
      have hl8 := Cls.of_below hb8
      replace s0 := hl8.cell s0
      replace s1 := hl8.cell s1
      replace e0 := hl8.cell e0
      replace e1 := hl8.cell e1
      have T8 := SlV.mono (SlV.keep S7 hb8) hb8.size
      have hbw8 := hb7.trans (hb8.mono hb7.size)
      have hI8 := hI7.keep hb8
      clear hq2 hret hI7 S7 hb8 hl8 hb7
      -- the values
      go_wp2_with fail
      refine (kG w8 hbw8).mono ?_
      rintro e w9 ⟨A9, k9, c9, rfl, S9, hb9⟩
      have hk9 := SlV.len S9
      subst hk9
      have hl9 := Cls.of_below hb9
      replace s0 := hl9.cell s0
      replace s1 := hl9.cell s1
      replace e0 := hl9.cell e0
      replace e1 := hl9.cell e1
      replace S8 := SlV.mono (SlV.keep S8 hb9) hb9.size
      replace T8 := SlV.mono (SlV.keep T8 hb9) hb9.size
      have hbw9 := hbw8.trans (hb9.mono hbw8.size)
      have hI9 := hI8.keep hb9
      clear kG hb9 hl9 hI8 hbw8
      have hrg : rGet A (L ⟨#[99, 108, 97, 115, 115]⟩) = rGet A clsN := rfl
      rw [hrg] at S9
      have hvl9 := hvL.out
      generalize rGet A clsN = vs at *
      go_wp2_with fail
      go_loopw [18, 20, 21, 22, 23, 24] (fun hv i _ _ _ _ wr => ∃ (m : Nat) (q : Bool), m ≤ vs.length ∧ hv = .bool q ∧ i = .int .i64 m ∧ Hid (q = (vs.take m).any fun v => decide ((sNorm s clsN v).2 = 0)) ∧ Below w9.heap.size w9 wr) (fun _ i _ _ _ _ _ => vs.length - (intOf i).toNat)
      case atStart => exact ⟨0, false, Nat.zero_le _, rfl, rfl, rfl, Below.refl _ _⟩
      case round =>
        obtain ⟨m, q, hm, rfl, rfl, hq, hb10⟩ := hrel
        have hbw10 := hbw9.trans (hb10.mono hbw9.size)
        replace s0 := cell_later hb10 s0
        replace s1 := cell_later hb10 s1
        replace e0 := cell_later hb10 e0
        replace e1 := cell_later hb10 e1
        have hI10 := hI9.keep hb10
        by_cases hlt2 : m < vs.length
        · have hltM : (m : Int) < (vs.length : Int) := by omega
          obtain ⟨b, off, hAd, _, d0⟩ := StrsV.cell (SlV.mono (SlV.keep S9 hb10) hb10.size) hlt2
          subst hAd
          have hxl := hvE.out _ (List.getElem_mem hlt2)
          have hN := kN vs[m] hxl
          have hP2 := fun h => Lib.hid (P2.out _ (List.getElem_mem hlt2) h)
          have hFl := hF1l.out vs[m]
          have hFf := fun W (hW : Below wr.heap.size wr W) => fnd11_any (hI10.keep hW) hG7.out w (hbw10.trans (hW.mono hbw10.size)) (hbw10.trans (hW.mono hbw10.size)).size hEv ⟨#[99, 108, 97, 115, 115]⟩ (B vs[m]) (by decide) (by rw [Idn.size_B]; omega)
          simp only [Idn.L_B] at hFf
          have hq2 : Hid (((vs.take (m + 1)).any fun v => decide ((sNorm s clsN v).2 = 0)) = (q || decide ((sNorm s clsN vs[m]).2 = 0))) := by
            show _ = _
            rw [List.take_succ_eq_append_getElem hlt2, List.any_append, ← hq.out]
            simp
          have hcl : L ⟨#[99, 108, 97, 115, 115]⟩ = clsN := rfl
          rw [hcl] at hN hFf
          generalize vs[m] = x at *
          generalize sNorm s clsN x = nr at *
          obtain ⟨n1, n2⟩ := nr
          dsimp only at hN hP2 hq2
          generalize ixFind s ([clsN].map Idn.lower) E1 clsN x = fr at *
          obtain ⟨f1, f2⟩ := fr
          dsimp only at hP2 hFl
          have hbe : decide (n2 = 0) = (n2 == 0) := by rw [Bool.eq_iff_iff]; simp
          rw [hbe] at hq2
          clear hbe hq P1 P2 P5 hF1l hvE hvL hcl kN
          have q1 := cq (W := wr) fun V hV => hN V (hbw10.trans (hV.mono hbw10.size))
          have i0 := cell_regrown s0
          have i1 := cell_regrown s1
          have i2 := cell_regrown d0
          clear hN
          go_wp2_with fail
          refine wp_region_quiet_below (by kernel_rfl) (by kernel_rfl) ?_
          repeat (first | go_big_quiet_step ((go_at_call 33; exact q1 _ _)) | quiet_step ((go_at_call 33; exact q1 _ _)))
          refine wpQuiet_nil ?_
          intro _ hw'
          obtain ⟨⟨dq, osq⟩, hw''⟩ := hw'
          subst hw''
          have hb4 := below_regrown wr dq osq
          generalize grow (redrawn wr dq) osq = W4 at hb4 ⊢
          have hb11 := Below.on hb10 hb4
          replace e0 := cell_later hb4 e0
          replace e1 := cell_later hb4 e1
          replace d0 := cell_later hb4 d0
          have hF4 := hFf W4 hb4
          clear q1 i0 i1 i2 hFf
          by_cases hn0 : n2 = 0
          case neg =>
            have hne : (n2 == 0) = false := by simpa using hn0
            have HQ : Hid (q = (vs.take (m + 1)).any fun v => decide ((sNorm s clsN v).2 = 0)) := by show _ = _; rw [hq2.out, hne, Bool.or_false]
            clear hq2 hP2
            cases q with
            | true =>
              go_wp2_with fail
              refine hF4.mono ?_
              intro e w12 hret
              obtain ⟨A12, c12, rfl, S12, hb12⟩ := hret.open_
              clear hret hF4
              go_wp2_with fail
              go_roundw
              case rel => exact ⟨m + 1, true, by omega, rfl, by go_num, HQ, Below.on hb11 hb12⟩
              case measure => simp [intOf]; omega
            | false =>
              go_wp2_with fail
              refine hF4.mono ?_
              intro e w12 hret
              obtain ⟨A12, c12, rfl, S12, hb12⟩ := hret.open_
              clear hret hF4
              go_wp2_with fail
              go_roundw
              case rel => exact ⟨m + 1, false, by omega, rfl, by go_num, HQ, Below.on hb11 hb12⟩
              case measure => simp [intOf]; omega
          subst hn0
          have hcx := (hP2 rfl).out
          have HQ : Hid (true = (vs.take (m + 1)).any fun v => decide ((sNorm s clsN v).2 = 0)) := by show _ = _; rw [hq2.out]; simp
          clear hq2 hP2
          have hfin : ∀ w12, Below W4.heap.size W4 w12 → StrsV w12 w12.heap.size (.slice none 0 0) [] := fun _ _ => SlV.nil _ _ _ _
          cases q with
          | true =>
            go_wp2_with fail
            refine hF4.mono ?_
            intro e w12 hret
            obtain ⟨A12, c12, rfl, S12, hb12⟩ := hret.open_
            dsimp only at S12
            replace e0 := cell_later hb12 e0
            have hcn := contains11_any _ f1 en w12 S12 (by omega)
            rw [hcx] at hcn
            clear hret hF4
            go_wp2_with fail
            refine hcn.mono ?_
            rintro e w13 ⟨rfl, hb13⟩
            go_wp2_with fail
            go_roundw
            case rel => exact ⟨m + 1, true, by omega, rfl, by go_num, HQ, Below.on (Below.on hb11 hb12) hb13⟩
            case measure => simp [intOf]; omega
          | false =>
            go_wp2_with fail
            refine hF4.mono ?_
            intro e w12 hret
            obtain ⟨A12, c12, rfl, S12, hb12⟩ := hret.open_
            dsimp only at S12
            replace e0 := cell_later hb12 e0
            have hcn := contains11_any _ f1 en w12 S12 (by omega)
            rw [hcx] at hcn
            clear hret hF4
            go_wp2_with fail
            refine hcn.mono ?_
            rintro e w13 ⟨rfl, hb13⟩
            go_wp2_with fail
            go_roundw
            case rel => exact ⟨m + 1, true, by omega, rfl, by go_num, HQ, Below.on (Below.on hb11 hb12) hb13⟩
            case measure => simp [intOf]; omega
        · have hltM : ¬ (m : Int) < (vs.length : Int) := by omega
          have hqa : (ixRange s ([clsN].map Idn.lower) E1 clsN [] []).1.contains en = q := by
            rw [P1.out, hq.out, List.take_of_length_le (by omega)]
          replace S8 := SlV.mono (SlV.keep S8 hb10) hb10.size
          replace T8 := SlV.mono (SlV.keep T8 hb10) hb10.size
          have hcn := contains11_any _ (ixRange s ([clsN].map Idn.lower) E1 clsN [] []).1 en wr S8 (by omega)
          rw [hqa] at hcn
          have hbq : (q != q) = false := by cases q <;> rfl
          clear hq P1 P2 hF1l hvE hvL kN S9 hqa s0 s1 hI9 hbw9
          go_wp2_with fail
          refine hcn.mono ?_
          rintro e w12 ⟨rfl, hb12⟩
          replace e0 := cell_later hb12 e0
          replace T8 := SlV.mono (SlV.keep T8 hb12) hb12.size
          have hI12 := hI10.keep hb12
          have hbw12 := hbw10.trans (hb12.mono hbw10.size)
          have hdr := drop11_any hI12 hG7.out hhw w hbw12 hEv en (by have := G3.out.1; rw [Idn.size_B] at this; omega)
          have hall := hI12.allMap
          clear hcn hI10 S8 hb12
          go_wp2_with fail
          refine hdr.mono ?_
          rintro e w13 ⟨rfl, G13, hI13, hG13, hm13, _, hbw13, hc13⟩
          replace hG13 := Lib.hid hG13
          replace e0 := hc13.cell e0
          replace T8 := SlV.mono (SlV.keepC T8 fun _ _ _ _ e => hc13.cell e) hc13.2
          have hq3 := rng11_any hI13 hG13.out w hbw13 hbw13.size hEv ⟨#[99, 108, 97, 115, 115]⟩ ⟨#[]⟩ ⟨#[]⟩ (by decide) (by decide) (by decide)
          obtain ⟨rr, hrr⟩ : ∃ rr, rr = ixRange s ([clsN].map Idn.lower) (ixDrop E1 en) clsN [] [] := ⟨_, rfl⟩
          rw [show ixRange s ([clsN].map Idn.lower) (ixDrop E1 en) (L ⟨#[99, 108, 97, 115, 115]⟩) (L ⟨#[]⟩) (L ⟨#[]⟩) = rr from hrr.symm] at hq3
          have P3' : rr.1.contains en = false := by rw [hrr]; exact P3
          have hrl : rr.1.length ≤ 256 := by rw [hrr]; exact hE2l
          replace hrr := Lib.hid hrr
          clear hdr hI12 hm13 hc13 hbw12 P3 hE2l
          go_wp2_with fail
          refine hq3.mono ?_
          intro e w14 hret
          obtain ⟨A14, c14, rfl, S14, hb14⟩ := hret.open_
          replace e0 := cell_later hb14 e0
          replace T8 := SlV.mono (SlV.keep T8 hb14) hb14.size
          have hI14 := hI13.keep hb14
          have hbw14 := hbw13.trans (hb14.mono hbw13.size)
          have hcn2 := contains11_any _ rr.1 en w14 S14 (by omega)
          rw [P3'] at hcn2
          clear hq3 hret hI13 hb14 hbw13 P3'
          go_wp2_with fail
          refine hcn2.mono ?_
          rintro e w15 ⟨rfl, hb15⟩
          replace T8 := SlV.mono (SlV.keep T8 hb15) hb15.size
          replace S14 := SlV.mono (SlV.keep S14 hb15) hb15.size
          have hI15 := hI14.keep hb15
          have hbw15 := hbw14.trans (hb15.mono hbw14.size)
          have hLn2 := ixLen_any hI15 hG13.out
          clear hcn2 hI14 hb15 hbw14 e0
          have hP4 : ¬ (ek.length : Int) < ((ixDrop E1 en).length : Int) := by omega
          cases th with
          | true =>
            clear hth P5
            go_wp2_with fail
            refine hLn2.mono ?_
            rintro e _ ⟨rfl, rfl⟩
            go_wp2_with fail
            refine (ka _ hbw15).mono ?_
            rintro e w17 ⟨rfl, hb17⟩
            go_wp2_with fail
            go_ret
            exact ⟨rfl, hbw15.trans (hb17.mono hbw15.size)⟩
          | false =>
            have hsame := P5.out hth.out.symm
            have hRR : (ixRange s ([clsN].map Idn.lower) ek (L ⟨#[99, 108, 97, 115, 115]⟩) (L ⟨#[]⟩) (L ⟨#[]⟩)).1 = rr.1 := by rw [hrr.out, hsame]; rfl
            rw [hsame] at hLn2 hP4 hI15 hG13
            have hLs := r_lists_any _ _ _ _ w15 T8 S14 hR0 (by omega)
            rw [decide_eq_true hRR] at hLs
            clear hth P5 hsame P4
            go_wp2_with fail
            refine hLn2.mono ?_
            rintro e _ ⟨rfl, rfl⟩
            go_wp2_with fail
            refine hLs.mono ?_
            rintro e w17 ⟨rfl, hb17⟩
            have hLn3 := ixLen_any (hI15.keep hb17) hG13.out
            have hbw17 := hbw15.trans (hb17.mono hbw15.size)
            clear hLs hLn2 hI15 T8 S14
            go_wp2_with fail
            refine hLn3.mono ?_
            rintro e _ ⟨rfl, rfl⟩
            go_wp2_with fail
            refine (ka _ hbw17).mono ?_
            rintro e w18 ⟨rfl, hb18⟩
            go_wp2_with fail
            go_ret
            exact ⟨rfl, hbw17.trans (hb18.mono hbw17.size)⟩
end Go.Proofs.YtgjllfonmgfhgaaGreatDoor
/- IndexReplaces: the contract as the row asks it, the statement, the card. -/
namespace Go.Proofs.YtgjllfonmgfhgaaGreatDoor
open Go.RowKit Go.Sort Go.Shelf Go.ChangeShapes Go.WideShapes Go.ChangeAt Go.ChangeMaps
theorem laid_eqIR : Rows.indexReplacesUptoRow.laid = laidL := by
  unfold laidL
  rw [← pow_eq, ← acc_eq, ← first_eq, ← case_eq]
  rfl
set_option maxRecDepth 100000 in
theorem cIR_contract (F : Stop.Interp) (H : Type) (enc : TypeId × Value → H) (W : World) (base : Nat) (args : Array Value) (ds gs : List (DataW H)) (before : List MemPlace)
    (hval : ∀ (j : Nat) t v, Tryz.f6.params[j]? = some t → args[j]? = some v → Value.okWide Tryz.prog W .any base t v)
    (hW : DataW.Whole enc Tryz.prog Tryz.f6.params.toList Rows.indexReplacesSpec.vars false W args.toList ds gs before) (hL : laidMet Tryz.prog laidL W) (hsh : W.ShapedOpen Tryz.prog) (hk : Rows.uptoSmall H (ds ++ gs) = true) :
    Calls Tryz.prog 6 args W fun e W' => ∃ v, e = .returned v ∧ ((Rows.OpenSpec.upto Rows.indexReplacesSpec).at F).post enc Tryz.prog Tryz.f6 false true false false W args v W' := by
  have hW' := hW
  obtain ⟨p, q, hA0, hV0, rfl, _, _⟩ := hW
  have hA : DataW.TrodAll enc Tryz.prog W 0 (fun _ => true) true Tryz.f6.params.toList args.toList ds p := hA0
  rw [Tryz.params6] at hA hval
  obtain ⟨v0, v1, v2, d0, d1, d2, p0, p1, p2, rfl, rfl, rfl, h0, h1, h2⟩ := trodAll_three hA
  obtain ⟨rfl, rfl⟩ := trodVars_none hV0
  have hB := bk_bound hk
  have hb0 := hB d0 (by simp)
  have hb1 := hB d1 (by simp)
  have hb2 := hB d2 (by simp)
  obtain ⟨s0, hS0, hg0⟩ := schema_openB (hval 0 25 v0 rfl rfl) h0
  obtain ⟨l1, hL1, hc1, hg1⟩ := ents_openB (hval 1 52 v1 rfl rfl) h1
  obtain ⟨n2, a2, l2, rfl, hAe2, hg2, hn2⟩ := entry_openB (hval 2 41 v2 rfl rfl) h2
  clear hA0 hV0 hval
  simp only [List.append_nil, List.append_assoc] at hW'
  have hlt : ∀ x ∈ p0 ++ (p1 ++ p2), x.block < W.heap.size := fun x hx => by simpa using hW'.lt x (by simpa using hx)
  obtain ⟨hE, hU⟩ := env_of hL hsh
  refine (indexReplaces_any v0 s0 v1 l1 n2 a2 l2 W hS0 (hg0.mono hb0) hL1 (Nat.le_trans hc1 hb1) (fun e he => (hg1 e he).mono hb1) hAe2 (hg2.mono hb2) (Nat.le_trans hn2 hb2) hE hU).mono ?_
  rintro e W' ⟨rfl, bel⟩
  have e1 : ((Rows.OpenSpec.upto Rows.indexReplacesSpec).at F).fn H ([d0, d1, d2] ++ []) = { results := [.lit (.bool true)], args := [d0, d1, d2] } := rfl
  refine ⟨_, rfl, _, _, _, [], (p0 ++ (p1 ++ p2)), [], hW', ?_, ?_, ?_, bel.frame _, fun h => by cases h⟩
  · rw [e1]; exact trodAll_mk1 (shut_bool Tryz.underlying4 _)
  · rw [e1]; exact trodAll_mk3 (Below.trod laidOut (by kernel_rfl) (of_decide_eq_true (by kernel_rfl)) h0 bel (fun x hx => hlt x (List.mem_append_left _ hx))) (Below.trod laidOut (by kernel_rfl) (of_decide_eq_true (by kernel_rfl)) h1 bel (fun x hx => hlt x (List.mem_append_right _ (List.mem_append_left _ hx)))) (Below.trod laidOut (by kernel_rfl) (of_decide_eq_true (by kernel_rfl)) h2 bel (fun x hx => hlt x (List.mem_append_right _ (List.mem_append_right _ hx))))
  · rw [e1]; rfl
theorem noHandleIR {W : World} (h : laidMetH Tryz.prog Rows.indexReplacesUptoRow.laid W) : laidMet Tryz.prog laidL W := by
  have e : (Rows.indexReplacesUptoRow.laid.filter fun x => x.2.handleName?.isSome) = [] := by kernel_rfl
  unfold laidMetH at h
  rw [e] at h
  rw [← laid_eqIR]
  exact h
theorem laid_metIR (os : Os) (args : Array Value) : laidMet Tryz.prog Rows.indexReplacesUptoRow.laid ((laidWorld os).forCall (fun _ _ => 0) ⟨#[], args, []⟩).memory := by
  rw [laid_eqIR]
  exact laid_metW os args
theorem witness_rowIR (os : Os) {H : Type} (enc : TypeId × Value → H) :
    (Rows.OpenSpec.upto Rows.indexReplacesSpec).preRow enc Tryz.prog Tryz.f6 Rows.indexReplacesUptoRow.domain false Rows.indexReplacesUptoRow.laid ((laidWorld os).forCall (fun _ _ => 0) ⟨#[], #[.agg #[.slice none 0 0, .slice none 0 0], .slice none 0 0, .agg #[.string ⟨#[]⟩, .slice none 0 0]], []⟩).memory #[.agg #[.slice none 0 0, .slice none 0 0], .slice none 0 0, .agg #[.string ⟨#[]⟩, .slice none 0 0]] := by
  have hw : (DataW.whole enc Tryz.prog ((laidWorld os).forCall (fun _ _ => 0) ⟨#[], #[.agg #[.slice none 0 0, .slice none 0 0], .slice none 0 0, .agg #[.string ⟨#[]⟩, .slice none 0 0]], []⟩).memory Tryz.f6.params.toList (Rows.OpenSpec.upto Rows.indexReplacesSpec).vars false #[Value.agg #[.slice none 0 0, .slice none 0 0], .slice none 0 0, .agg #[.string ⟨#[]⟩, .slice none 0 0]].toList 8).map (fun x => (x.1, x.2.1)) =
      some ([.agg [.nil, .nil], .nil, .agg [.lit (.string []), .nil]], []) := by kernel_rfl
  obtain ⟨⟨x1, x2, x3⟩, hx, hx1⟩ := Option.map_eq_some_iff.1 hw
  simp only [Prod.mk.injEq] at hx1
  obtain ⟨rfl, rfl⟩ := hx1
  exact OpenSpec.preRow_of_cond 8 hx (by kernel_rfl) (fun k hk => by cases hk; kernel_rfl) (by kernel_rfl) (laid_metIR os _)
set_option maxRecDepth 100000 in
theorem liftedIR (os : Os) (started : os.Started) (H : Type) (enc : TypeId × Value → H) (F : Stop.Interp) :
    ReturnsInHanded {} Tryz.checked os 6 .any ((Rows.OpenSpec.upto Rows.indexReplacesSpec).preRow enc Tryz.prog Tryz.f6 Rows.indexReplacesUptoRow.domain false Rows.indexReplacesUptoRow.laid) (((Rows.OpenSpec.upto Rows.indexReplacesSpec).at F).post enc Tryz.prog Tryz.f6 false true false false) := by
  refine returnsInHanded_of_row (C := Tryz.checked) (s := (Rows.OpenSpec.upto Rows.indexReplacesSpec)) own started (by kernel_rfl) Tryz.func6
    (witness_row_atRef (enc := enc) (C := Tryz.checked) false (laidWorld os) #[.agg #[.slice none 0 0, .slice none 0 0], .slice none 0 0, .agg #[.string ⟨#[]⟩, .slice none 0 0]] rfl (by kernel_rfl) (by kernel_rfl) (by kernel_rfl) (witness_rowIR os enc)) ?_
  intro W base args ds gs before hval hW _ hcond _ hL hsh _
  exact cIR_contract F H enc W base args ds gs before hval hW (noHandleIR hL) hsh (hcond _ rfl)
end Go.Proofs.YtgjllfonmgfhgaaGreatDoor
/- IndexReplaces: the statement. -/
namespace Go.Proofs.YtgjllfonmgfhgaaGreatDoor
open Go.RowKit Go.Sort Go.Shelf Go.ChangeShapes Go.WideShapes Go.ChangeAt Go.ChangeMaps
set_option maxHeartbeats 8000000 in
theorem closedIR : joinedFacts Tryz.pinned.checked.prog 6 Tryz.f6 (Rows.OpenSpec.upto Rows.indexReplacesSpec).bare Rows.indexReplacesUptoRow = true := by
  unfold joinedFacts
  simp only [Bool.and_eq_true]
  repeat' with_reducible apply And.intro
  all_goals (as_aux_lemma => kernel_rfl)
theorem saidIR : Rows.IndexReplacesUptoSaid :=
  OpenClaim.holds_of_cond 6 Tryz.f6 rfl rfl rfl rfl rfl rfl rfl ⟨rfl, rfl, rfl, rfl, rfl⟩ rfl rfl rfl rfl rfl (by kernel_rfl) Tryz.func6 closedIR
    (of_decide_eq_true (by kernel_rfl)) (by unfold Func.isWrapper; first | (rw [if_pos (by decide +kernel)]; kernel_rfl) | (rw [if_neg (by decide +kernel)]; exact ⟨rfl, rfl⟩))
    (fun os started H enc _ F => by rw [OpenClaim.pre_eq_preRow]; exact liftedIR os started H enc F)
end Go.Proofs.YtgjllfonmgfhgaaGreatDoor
/- IndexReplaces: the card. -/
namespace Go.Proofs.YtgjllfonmgfhgaaGreatDoor
open Go.RowKit Go.Sort Go.Shelf Go.ChangeShapes Go.WideShapes Go.ChangeAt Go.ChangeMaps
theorem plainIR (f : FuncId) (fn : Func) (hf : Tryz.pinned.checked.prog.funcNamed "identity/identitylaw11.IndexReplaces" = some f) (hfn : Tryz.pinned.checked.prog.funcs[f]? = some fn) :
    true = Tryz.pinned.checked.prog.looks [] ∧ ∀ (j : Nat) t, fn.params[j]? = some t → Tryz.pinned.checked.prog.wantsStandIn t = false := by
  obtain rfl : f = 6 := Option.some.inj ((show Tryz.prog.funcNamed "identity/identitylaw11.IndexReplaces" = some 6 by kernel_rfl).symm.trans hf) |>.symm
  obtain rfl : fn = Tryz.f6 := (Option.some.inj (Tryz.func6.symm.trans hfn)).symm
  refine ⟨by kernel_rfl, fun j t ht => ?_⟩
  rw [Tryz.params6] at ht
  have hm := Array.mem_of_getElem? ht
  simp at hm
  rcases hm with rfl | rfl | rfl
  · exact (show Tryz.prog.wantsStandIn 25 = false by kernel_rfl)
  · exact (show Tryz.prog.wantsStandIn 52 = false by kernel_rfl)
  · exact (show Tryz.prog.wantsStandIn 41 = false by kernel_rfl)
theorem indexReplaces_card : Rows.IndexReplacesUptoCardSaid :=
  Claim7.holds_tied_plain_at .later [] _ _ _ _ saidIR (fun _ h => by cases h) (by kernel_rfl) (fun _ h => by cases h) indexReplacesUpto_row_tie rfl ⟨rfl, rfl⟩ (by kernel_rfl) rfl plainIR (by kernel_rfl)
#print axioms indexReplaces_card
end Go.Proofs.YtgjllfonmgfhgaaGreatDoor
