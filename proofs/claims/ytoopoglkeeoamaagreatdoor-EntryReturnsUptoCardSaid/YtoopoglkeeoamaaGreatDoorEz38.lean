/- Part 38 of the proof that identitylaw08.EntryParses and EntryReturns return true: the package variables hold what the program lays; nothing else is asked. -/
import Derived.Test.YtoopoglkeeoamaaGreatDoorEz29
import Derived.Test.YtoopoglkeeoamaaGreatDoorEz30
import Derived.Test.YtoopoglkeeoamaaGreatDoorEz37
set_option linter.unusedVariables false
set_option linter.unusedSimpArgs false
/- attrs: Sorted, at attributes that may have no values. -/
namespace Go.Proofs.YtoopoglkeeoamaaGreatDoor
open Go.RowKit Go.Sort
open Idn (L B Bs drop_L take_L size_L)

theorem sorted2_pred (g : Nat) (w : World) : PredG g 83 #[] (fun x => ((x.2 : Nat) : Int) == 0) w := fun W x A c _ => sorted2_any x.1 A x.2 c W
theorem full_map (ps : List (Idn.Att × Value)) : (ps.filter fun q => !((((nmA q).2 : Nat) : Int) == 0)).map (·.1) = (ps.map (·.1)).filter Idn.full := by
  rw [List.filter_map]
  congr 1
  refine List.filter_congr fun q _ => ?_
  show (!((q.1.vals.length : Int) == 0)) = decide (q.1.vals.length ≠ 0)
  by_cases h : q.1.vals.length = 0
  · rw [h]; rfl
  · rw [decide_eq_true h]
    have : ((q.1.vals.length : Int) == 0) = false := by rw [beq_eq_false_iff_ne]; omega
    rw [this]; rfl
set_option maxHeartbeats 2000000 in
set_option maxRecDepth 100000 in
theorem sortedG_any (v : Value) (l : List Idn.Att) (w : World) (hv : AttsV w w.heap.size v l) (hs : Idn.ASm7 l) :
    Calls Tryz.prog 35 #[v] w fun e w' => ∃ v' ps, e = .returned v' ∧ AttOwn w' w.heap.size v' ps ∧ ps.map (·.1) = Idn.rSorted l ∧ Below w.heap.size w w' := by
  obtain ⟨A, c, rfl, hc⟩ := SlV.shape hv
  have hl1 := hs.1
  go_enter Tryz.func35, Tryz.ntmps35
  go_upto_block 0 with fail
  go_cut [3] (fun u wx => ∃ ps, AttOwn wx w.heap.size u ps ∧ Below w.heap.size w wx ∧ Hid (ps.map (·.1) = Idn.grp [] l) ∧ ps.length ≤ 1000 ∧ ∀ p ∈ ps, p.1.vals.length ≤ 1000000000)
  case first =>
    go_wp2_with fail
    go_loopw [3, 11] (fun u i wr => ∃ (k : Nat) (ps : List (Idn.Att × Value)), k ≤ l.length ∧ i = .int .i64 k ∧ AttOwn wr w.heap.size u ps ∧ Below w.heap.size w wr ∧ Hid (Idn.grp (ps.map (·.1)) (l.drop k) = Idn.grp [] l) ∧ ps.length ≤ k ∧ ∀ p ∈ ps, p.1.vals.length ≤ k * 1100000) (fun _ i _ => l.length - (intOf i).toNat)
    case atStart => exact ⟨0, [], Nat.zero_le _, rfl, AttOwn.nil _ _, Below.refl _ _, rfl, Nat.le_refl _, by simp⟩
    case round =>
      obtain ⟨k, ps, hk, rfl, hown, hb, hinv, hpl, hpv⟩ := hrel
      by_cases hlt : k < l.length
      · obtain ⟨b, off, va, rfl, hbl, c0, c1, hva⟩ := AttsV.cell hv hlt
        obtain ⟨Av, cv, rfl, hcv⟩ := SlV.shape hva
        replace c0 := (hb.cell (p := ⟨b, off + k * 2, none⟩) hbl).trans c0
        replace c1 := (hb.cell (p := ⟨b, off + k * 2 + 1, none⟩) hbl).trans c1
        have hltI : (k : Int) < (l.length : Int) := by omega
        obtain ⟨hn9, hv9, _⟩ := hs.2 l[k] (List.getElem_mem hlt)
        have hL := fun W => lower_any (B l[k].name) W (by rw [Idn.size_B]; omega)
        rw [Idn.L_B] at hL
        have hstep := Idn.grp_step l k hlt (ps.map (·.1))
        generalize Idn.lower l[k].name = nm at *
        obtain ⟨wo, hwo⟩ : ∃ wo : World, wo = wr := ⟨_, rfl⟩
        subst hwo
        go_wp2_with fail
        with_reducible refine gen1 (R := fun W => Calls Tryz.prog 49 _ W _) ?_
        intro W hbW hszW hc1 _
        have d0 : W.cell? ⟨wo.heap.size, 0, none⟩ = some (.string (B l[k].name)) := hc1 0 _ rfl
        have d1 : W.cell? ⟨wo.heap.size, 1, none⟩ = some (.slice Av l[k].vals.length cv) := hc1 1 _ rfl
        clear hc1 hszW c0 c1
        refine (hL W).mono ?_
        rintro e w1 ⟨rfl, hb1⟩
        clear hL
        have hbo1 := hbW.trans (hb1.mono hbW.size)
        replace d1 := cell_later hb1 d1
        have hown1 := hown.keep hbo1
        have hlo := fun g => own_lt hown.1 (g := g)
        clear hown d0
        obtain ⟨Au, cu, hu⟩ := own_shape hown1.1
        rw [hu] at hlo
        subst hu
        go_wp2_with fail
        with_reducible refine gen1 (R := fun W => Calls Tryz.prog 80 _ W _) ?_
        intro W2 hbW2 hszW2 hc2 _
        have q0 : W2.cell? ⟨w1.heap.size, 0, none⟩ = some (.string (B nm)) := hc2 0 _ rfl
        clear hc2
        have hI := idxA_any 81 #[.pointer (some ⟨w1.heap.size, 0, none⟩)] fn_sorted1 _ _ _ W2 (hown1.keep hbW2).names (by rw [List.length_map]; omega) (sorted1_any.pred w1.heap.size (B nm) _ W2 q0)
        rw [Idn.L_B] at hI
        have hix : idxP (fun x : Bs × Nat => decide (x.1 = nm)) (ps.map fun p => (p.1.name, p.1.vals.length)) = idxP (fun a : Idn.Att => decide (a.name = nm)) (ps.map (·.1)) := by unfold idxP; rw [ixAdd]
        rw [hix] at hI
        clear hix
        refine hI.mono ?_
        rintro e w2 ⟨rfl, hb2⟩
        have hb12 := hbW2.trans (hb2.mono hbW2.size)
        have hown2 := hown1.keep hb12
        have q2 := cell_later hb2 q0
        have d2 := cell_later hb12 d1
        have hbo2 := hbo1.trans (hb12.mono hbo1.size)
        have hbw2 := hb.trans (hbo2.mono hb.size)
        clear hI hown1 d1 q0 hszW2
        go_upto_if 22 with fail
        go_cut [3, 7] (fun u i wx => ∃ (qs : List (Idn.Att × Value)) (j : Nat) (p : Idn.Att × Value), i = .int .i64 j ∧ AttOwn wx w.heap.size u qs ∧ qs[j]? = some p ∧ Hid ((qs.map (·.1)).set j ⟨p.1.name, p.1.vals ++ l[k].vals⟩ = Idn.addA (ps.map (·.1)) nm l[k].vals) ∧ qs.length ≤ k + 1 ∧ (∀ p ∈ qs, p.1.vals.length ≤ k * 1100000) ∧ Below w.heap.size w wx ∧ wx.cell? ⟨wo.heap.size, 1, none⟩ = some (.slice Av l[k].vals.length cv))
        case first =>
          cases hx : (ps.map (·.1)).findIdx? (fun a => decide (a.name = nm)) with
          | none =>
            have hAd := Idn.addA_none l[k].vals hx
            rw [idxP_none hx]
            clear hx
            go_wp2_with (at_builtin; refine wpList_push w2 rfl _ _ 22 rfl w.heap.size 48 (.agg #[.string ⟨#[]⟩, .slice none 0 0]) 2 40 Tryz.underlying22 info_attr rfl (by decide) _ ps.length _ hown2.1 rfl [.string (B nm), .slice none 0 0] rfl rfl (by intro u hu; simp at hu; rcases hu with rfl | rfl <;> rfl) (by omega) hbw2.size ?_ rfl)
            intro v' w3 hown3 hg3 hat3 hb3 _
            have hP := hown2.push (n := nm) hown3 hg3
            have d3 : w3.cell? ⟨wo.heap.size, 1, none⟩ = some (.slice Av l[k].vals.length cv) := by
              rw [World.cell?_of_block (w := w2) (hg3.block wo.heap.size (World.block_lt_of_cell? _ _ d2) (fun e => by have := hlo _ e.symm; omega))]
              exact d2
            have HS : Hid (((ps ++ [((⟨nm, []⟩ : Idn.Att), Value.slice none 0 0)]).map (·.1)).set ps.length ⟨nm, [] ++ l[k].vals⟩ = Idn.addA (ps.map (·.1)) nm l[k].vals) := by
              show _ = _
              rw [hAd, List.map_append, List.set_append_right _ _ (by simp)]
              simp
            clear hAd
            go_wp2_with fail
            go_meet
            refine ⟨_, ps.length, (⟨nm, []⟩, .slice none 0 0), rfl, hP, by simp, HS, by simp; omega, ?_, hbw2.trans hb3, d3⟩
            intro p hp
            rcases List.mem_append.1 hp with hp | hp
            · exact hpv p hp
            · simp at hp; subst hp; simp
          | some j =>
            have hjl : j < (ps.map (·.1)).length := (List.findIdx?_eq_some_iff_getElem.1 hx).1
            have hAd := Idn.addA_some l[k].vals hx hjl
            rw [idxP_some hx]
            have hj0 : ¬ ((j : Int) < 0) := by omega
            rw [List.length_map] at hjl
            have HS : Hid ((ps.map (·.1)).set j ⟨ps[j].1.name, ps[j].1.vals ++ l[k].vals⟩ = Idn.addA (ps.map (·.1)) nm l[k].vals) := by
              show _ = _
              rw [hAd]; simp
            clear hx hAd
            go_wp2_with fail
            go_meet
            exact ⟨ps, j, ps[j], rfl, hown2, List.getElem?_eq_getElem hjl, HS, by omega, hpv, hbw2, d2⟩
        case rest =>
          obtain ⟨qs, j, p, rfl, hownc, hpj, hset, hql, hqv, hbc, d3⟩ := hcut
          have hjl := (List.getElem?_eq_some_iff.1 hpj).1
          obtain ⟨g, cap, hu, _, hgl⟩ := hownc.1.form (by omega)
          subst hu
          have hjI : (j : Int) < (qs.length : Int) := by omega
          obtain ⟨Ap, cp, hup⟩ := own_shape (hownc.2.1 p (List.mem_of_getElem? hpj))
          have hcells : wc.cell? ⟨g, j * 2 + 1, none⟩ = some (.slice Ap p.1.vals.length cp) := by
            have e : ∀ j, ((⟨g, 0, none⟩ : Addr).add j) = ⟨g, j, none⟩ := fun j => by unfold Addr.add; split <;> simp_all
            have := hownc.1.cells (g := g) rfl _ _ (rowA_at qs j p hpj).2
            rw [e, hup] at this
            exact this
          have hownd : AttOwn wc.drew w.heap.size (.slice (some ⟨g, 0, none⟩) qs.length cap) qs := hownc
          have hownp : wc.drew.ownsRow w.heap.size 9 1 (.slice Ap p.1.vals.length cp) p.1.vals.length (p.1.vals.map sv) := by
            have := hownc.2.1 p (List.mem_of_getElem? hpj)
            rw [hup] at this
            exact this
          have hvd : StrsV wc.drew w.heap.size (.slice Av l[k].vals.length cv) l[k].vals := by
            have : StrsV wc w.heap.size (.slice Av l[k].vals.length cv) l[k].vals := SlV.keep hva hbc
            exact this
          have hbd : w.heap.size ≤ wc.drew.heap.size := hbc.size
          have hpk := hqv p (List.mem_of_getElem? hpj)
          have hkk : k * 1100000 ≤ 900 * 1100000 := Nat.mul_le_mul_right _ (by omega)
          clear hownc hown2 hb12 hb1 hbW hbo1 hbo2 hbw2 hb2 hbW2 q2 d2
          go_wp2_with fail
          go_region_law (refine step_appendS rfl _ _ 45 rfl w.heap.size 9 Tryz.underlying45 info_str _ _ _ hownp rfl _ l[k].vals _ hvd rfl (by omega) hbd ?_; intro v' w' hown' hg' hat'; obtain ⟨st1, st2, hnew⟩ := hownd.grow hpj hown' (by rw [hup]; exact hg') (by rw [hup]; exact hat'); rw [hup] at st1; obtain ⟨A9, c9, hv9⟩ := own_shape hown'; subst hv9)
          all_goals
            have hHF : Hid (Idn.grp ((qs.set j (⟨p.1.name, p.1.vals ++ l[k].vals⟩, .slice A9 (p.1.vals.length + l[k].vals.length) c9)).map (·.1)) (l.drop (k + 1)) = Idn.grp [] l) := by
              show _ = _
              rw [List.map_set, hset.out, ← hstep]; exact hinv.out
            have hgb : w.heap.size ≤ g := (hownd.1.lt g rfl).1
            have hbf : Below w.heap.size w (w'.setCell ⟨g, j * 2 + 1, none⟩ (.slice A9 (p.1.vals.length + l[k].vals.length) c9)) :=
              (((hbc.drew).grown hg' hbc.size (fun k' hk' => (hownp.lt k' hk').1))).setCell (p := ⟨g, j * 2 + 1, none⟩) hgb _
            go_wp2_with fail
            go_roundw
            case rel =>
              refine ⟨k + 1, _, by omega, by go_num, hnew, hbf, hHF, by rw [List.length_set]; exact hql, fun q hq => ?_⟩
              rcases List.mem_or_eq_of_mem_set hq with hq | rfl
              · exact Nat.le_trans (hqv q hq) (Nat.mul_le_mul_right _ (Nat.le_succ k))
              · show (p.1.vals ++ l[k].vals).length ≤ _; rw [List.length_append, Nat.succ_mul]; exact Nat.add_le_add hpk hv9
            case measure => simp [intOf]; omega
      · have hltI : ¬ (k : Int) < (l.length : Int) := by omega
        have HF : Hid (ps.map (·.1) = Idn.grp [] l) := by show _ = _; rw [← hinv.out, List.drop_eq_nil_of_le (by omega)]; rfl
        go_wp2_with fail
        go_meet
        refine ⟨ps, hown, hb, HF, by omega, fun p hp => ?_⟩
        have := hpv p hp
        have : k * 1100000 ≤ 900 * 1100000 := Nat.mul_le_mul_right _ (by omega)
        omega
  case rest =>
    obtain ⟨ps0, hown0, hb, hps0, hpl0, hpv0⟩ := hcut
    have hD := delA_any 83 #[] fn_sorted2 (fun x => ((x.2 : Nat) : Int) == 0) w.heap.size _ ps0 wc hown0 hb.size (by omega) (fun g _ => sorted2_pred g wc)
    have hps1 := full_map ps0
    have hne0 : ∀ p ∈ (ps0.filter fun q => !((((nmA q).2 : Nat) : Int) == 0)), p.1.vals.length ≠ 0 := fun p hp h0 => by
      have := (List.mem_filter.1 hp).2
      unfold nmA at this
      rw [h0] at this
      simp at this
    have hpl1 : (ps0.filter fun q => !((((nmA q).2 : Nat) : Int) == 0)).length ≤ 1000 := Nat.le_trans (List.length_filter_le _ _) hpl0
    have hpv1 : ∀ p ∈ (ps0.filter fun q => !((((nmA q).2 : Nat) : Int) == 0)), p.1.vals.length ≤ 1000000000 := fun p hp => hpv0 p (List.mem_filter.1 hp).1
    rw [hps0.out] at hps1
    generalize (ps0.filter fun q => !((((nmA q).2 : Nat) : Int) == 0)) = ps at *
    have hps := Lib.hid hps1
    have hne' := hne0
    have hpl := hpl1
    have hpv := hpv1
    obtain ⟨Au0, cu0, hu0⟩ := own_shape hown0.1
    subst hu0
    clear hown0 hps0 hpl0 hpv0 hps1 hne0 hpl1 hpv1
    go_wp2_with fail
    refine hD.mono ?_
    rintro e w1 ⟨v1, rfl, hown1, hb1⟩
    have hbw1 := hb.trans hb1
    obtain ⟨Au, cu, hu⟩ := own_shape hown1.1
    subst hu
    clear hD
    go_upto_block 2 with fail
    go_cut [] (fun wx => ∃ qs, AttOwn wx w.heap.size (.slice Au ps.length cu) qs ∧ Below w.heap.size w wx ∧ Hid (qs.map (·.1) = (ps.map (·.1)).map Idn.normA) ∧ qs.length = ps.length)
    case first =>
      go_wp2_with fail
      go_loopw [8, 47] (fun _ i wr => ∃ (k : Nat) (qs : List (Idn.Att × Value)), k ≤ ps.length ∧ i = .int .i64 k ∧ AttOwn wr w.heap.size (.slice Au ps.length cu) qs ∧ Below w.heap.size w wr ∧ Hid (qs.map (·.1) = ((ps.map (·.1)).take k).map Idn.normA ++ (ps.map (·.1)).drop k) ∧ qs.length = ps.length) (fun _ i _ => ps.length - (intOf i).toNat)
      case atStart => exact ⟨0, ps, Nat.zero_le _, rfl, hown1, hbw1, by show _ = _; simp, rfl⟩
      case round =>
        obtain ⟨k, qs, hk, rfl, hown, hbr, hinv, hql⟩ := hrel
        by_cases hlt : k < ps.length
        · have hltI : (k : Int) < (ps.length : Int) := by omega
          obtain ⟨q, hqk⟩ : ∃ q, qs[k]? = some q := ⟨_, List.getElem?_eq_getElem (by omega)⟩
          obtain ⟨g, cap, hu, _, hgl⟩ := hown.1.form (by omega)
          injection hu with hu1 hu2 hu3
          subst hu1 hu3
          have hqm : q ∈ qs := List.mem_of_getElem? hqk
          have hq1 : q.1 = ps[k].1 := by
            have := congrArg (·[k]?) hinv.out
            simp only [List.getElem?_map, hqk, Option.map_some] at this
            rw [List.getElem?_append_right (by simp; omega)] at this
            simp [hlt, Nat.min_eq_left (Nat.le_of_lt hlt)] at this
            exact this
          have hpm : ps[k] ∈ ps := List.getElem_mem _
          have hvn := hne' _ hpm
          have hvb := hpv _ hpm
          obtain ⟨k0, k1, kf, kb⟩ := hown.cell hqk
          have hou := hown.2.1 _ hqm
          rw [hq1] at hou
          obtain ⟨g1, cap1, hv1, hgb1, hg1⟩ := hou.form (by omega)
          rw [hv1] at hou k1
          have hSo := sort_own g1 cap1 ps[k].1.vals w.heap.size wr hou (by omega) hvb hbr.size
          have hHq : Hid (qs.set k (⟨ps[k].1.name, Lib.compact (sorted ps[k].1.vals)⟩, q.2) = qs.set k (⟨ps[k].1.name, Lib.compact (sorted ps[k].1.vals)⟩, q.2)) := rfl
          have HQK := Lib.hid hqk
          have HQ1 := Lib.hid hq1
          have HV1 := Lib.hid hv1
          have HQL := Lib.hid hql
          clear hHq hqk hq1 hv1 hql k0 hu2
          go_wp2_with fail
          refine hSo.mono ?_
          rintro e w2 ⟨rfl, hou2, hg2⟩
          have hsl : (sorted ps[k].1.vals).length = ps[k].1.vals.length := sorted_len _
          have hou2' : w2.ownsRow w.heap.size 9 1 (.slice (some ⟨g1, 0, none⟩) (sorted ps[k].1.vals).length cap1) (sorted ps[k].1.vals).length ((sorted ps[k].1.vals).map sv) := by rw [hsl]; exact hou2
          have hown2 := hown.turn (vals := sorted ps[k].1.vals) HQK.out (by rw [HV1.out, hsl]; exact hou2) (by rw [HV1.out]; exact hg2)
          have hk2 : (qs.set k (⟨q.1.name, sorted ps[k].1.vals⟩, q.2))[k]? = some (⟨q.1.name, sorted ps[k].1.vals⟩, q.2) := by simp [HQL.out, hlt]
          obtain ⟨_, k12, kf2, _⟩ := hown2.cell hk2
          rw [HV1.out] at k12
          have hb2 : Below w.heap.size w w2 := hbr.grown hg2 hbr.size (fun x hx => by injection hx with hx; omega)
          have hCo := compact_own g1 cap1 (sorted ps[k].1.vals) w.heap.size w2 hou2' (by rw [hsl]; omega) (by rw [hsl]; exact hvb)
          rw [hsl] at hCo
          have hgl2 : g < w2.heap.size := World.block_lt_of_cell? _ _ k12
          clear hSo hown hou2 hou2' hou kf k1 hsl
          go_wp2_with fail
          refine hCo.mono ?_
          rintro e w3 ⟨rfl, hou3, hg3⟩
          clear hCo
          obtain ⟨st1, st2, hown3⟩ := hown2.put (u' := .slice (some ⟨g1, 0, none⟩) (Lib.compact (sorted ps[k].1.vals)).length cap1) hk2 hou3 (by rw [HV1.out]; exact hg3) (.inl (by rw [HV1.out]; rfl))
          dsimp only at st1 hown3
          rw [HV1.out] at st1
          have hb3 : Below w.heap.size w w3 := hb2.grown hg3 hb2.size (fun x hx => by injection hx with hx; omega)
          have hgl3 : g < w3.heap.size := World.block_lt_of_cell? _ _ st1
          have HF : Hid (((qs.set k (⟨q.1.name, sorted ps[k].1.vals⟩, q.2)).set k (⟨q.1.name, Lib.compact (sorted ps[k].1.vals)⟩, .slice (some ⟨g1, 0, none⟩) (Lib.compact (sorted ps[k].1.vals)).length cap1)).map (·.1) = ((ps.map (·.1)).take (k + 1)).map Idn.normA ++ (ps.map (·.1)).drop (k + 1)) := by
            show _ = _
            rw [List.set_set, List.map_set, hinv.out, HQ1.out]
            have hl : k < (ps.map (·.1)).length := by simpa using hlt
            rw [List.set_append_right _ _ (by simp; omega), List.take_succ_eq_append_getElem hl, List.map_append, List.drop_eq_getElem_cons hl]
            simp [Nat.min_eq_left (Nat.le_of_lt hlt)]
            rfl
          clear hown2 hk2 k12 kf2 hou3
          go_wp2_with fail
          go_roundw
          case rel => exact ⟨k + 1, _, by omega, by go_num, hown3, hb3.setCell (p := ⟨g, k * 2 + 1, none⟩) kb _, HF, by rw [List.length_set, List.length_set]; exact HQL.out⟩
          case measure => simp [intOf]; omega
        · have hltI : ¬ (k : Int) < (ps.length : Int) := by omega
          have HF : Hid (qs.map (·.1) = (ps.map (·.1)).map Idn.normA) := by
            show _ = _
            rw [hinv.out, List.take_of_length_le (by simp; omega), List.drop_eq_nil_of_le (by simp; omega), List.append_nil]
          go_wp2_with fail
          go_meet
          exact ⟨qs, hown, hbr, HF, hql⟩
    case rest =>
      obtain ⟨qs, hown, hb, hq, hql⟩ := hcut
      have hnd : ((qs.map (·.1)).map (·.name)).Nodup := by
        rw [hq.out, Idn.norm_names, hps.out]
        exact (List.filter_sublist.map _).nodup (Idn.grp_nd l [] (by simp))
      have hS := sortA_any _ w.heap.size qs wc hown hb.size (by omega) hnd
      rw [hq.out, hps.out, Idn.sortedG_law] at hS
      clear hown
      go_wp2_with fail
      refine hS.mono ?_
      rintro e w4 ⟨rfl, qs', hown', hq', hb'⟩
      clear hS
      go_wp2_with fail
      go_ret
      exact ⟨_, qs', rfl, hown', hq', hb.trans hb'⟩
end Go.Proofs.YtoopoglkeeoamaaGreatDoor
/- attrs: Sorted, at up to 1000 attributes that may have no values. -/
namespace Go.Proofs.YtoopoglkeeoamaaGreatDoor
open Go.RowKit Go.Sort
open Idn (L B Bs drop_L take_L size_L)
def ASm9 (l : List Idn.Att) : Prop := l.length ≤ 1000 ∧ ∀ a ∈ l, a.name.length ≤ 1000000000 ∧ a.vals.length ≤ 1000000 ∧ ∀ x ∈ a.vals, x.length ≤ 1000000000
set_option maxHeartbeats 2000000 in
set_option maxRecDepth 100000 in
theorem sortedH_any (v : Value) (l : List Idn.Att) (w : World) (hv : AttsV w w.heap.size v l) (hs : ASm9 l) :
    Calls Tryz.prog 35 #[v] w fun e w' => ∃ v' ps, e = .returned v' ∧ AttOwn w' w.heap.size v' ps ∧ ps.map (·.1) = Idn.rSorted l ∧ Below w.heap.size w w' := by
  obtain ⟨A, c, rfl, hc⟩ := SlV.shape hv
  have hl1 := hs.1
  go_enter Tryz.func35, Tryz.ntmps35
  go_upto_block 0 with fail
  go_cut [3] (fun u wx => ∃ ps, AttOwn wx w.heap.size u ps ∧ Below w.heap.size w wx ∧ Hid (ps.map (·.1) = Idn.grp [] l) ∧ ps.length ≤ 1000 ∧ ∀ p ∈ ps, p.1.vals.length ≤ 1000000000)
  case first =>
    go_wp2_with fail
    go_loopw [3, 11] (fun u i wr => ∃ (k : Nat) (ps : List (Idn.Att × Value)), k ≤ l.length ∧ i = .int .i64 k ∧ AttOwn wr w.heap.size u ps ∧ Below w.heap.size w wr ∧ Hid (Idn.grp (ps.map (·.1)) (l.drop k) = Idn.grp [] l) ∧ ps.length ≤ k ∧ ∀ p ∈ ps, p.1.vals.length ≤ k * 1000000) (fun _ i _ => l.length - (intOf i).toNat)
    case atStart => exact ⟨0, [], Nat.zero_le _, rfl, AttOwn.nil _ _, Below.refl _ _, rfl, Nat.le_refl _, by simp⟩
    case round =>
      obtain ⟨k, ps, hk, rfl, hown, hb, hinv, hpl, hpv⟩ := hrel
      by_cases hlt : k < l.length
      · obtain ⟨b, off, va, rfl, hbl, c0, c1, hva⟩ := AttsV.cell hv hlt
        obtain ⟨Av, cv, rfl, hcv⟩ := SlV.shape hva
        replace c0 := (hb.cell (p := ⟨b, off + k * 2, none⟩) hbl).trans c0
        replace c1 := (hb.cell (p := ⟨b, off + k * 2 + 1, none⟩) hbl).trans c1
        have hltI : (k : Int) < (l.length : Int) := by omega
        obtain ⟨hn9, hv9, _⟩ := hs.2 l[k] (List.getElem_mem hlt)
        have hL := fun W => lower_any (B l[k].name) W (by rw [Idn.size_B]; omega)
        rw [Idn.L_B] at hL
        have hstep := Idn.grp_step l k hlt (ps.map (·.1))
        generalize Idn.lower l[k].name = nm at *
        obtain ⟨wo, hwo⟩ : ∃ wo : World, wo = wr := ⟨_, rfl⟩
        subst hwo
        go_wp2_with fail
        with_reducible refine gen1 (R := fun W => Calls Tryz.prog 49 _ W _) ?_
        intro W hbW hszW hc1 _
        have d0 : W.cell? ⟨wo.heap.size, 0, none⟩ = some (.string (B l[k].name)) := hc1 0 _ rfl
        have d1 : W.cell? ⟨wo.heap.size, 1, none⟩ = some (.slice Av l[k].vals.length cv) := hc1 1 _ rfl
        clear hc1 hszW c0 c1
        refine (hL W).mono ?_
        rintro e w1 ⟨rfl, hb1⟩
        clear hL
        have hbo1 := hbW.trans (hb1.mono hbW.size)
        replace d1 := cell_later hb1 d1
        have hown1 := hown.keep hbo1
        have hlo := fun g => own_lt hown.1 (g := g)
        clear hown d0
        obtain ⟨Au, cu, hu⟩ := own_shape hown1.1
        rw [hu] at hlo
        subst hu
        go_wp2_with fail
        with_reducible refine gen1 (R := fun W => Calls Tryz.prog 80 _ W _) ?_
        intro W2 hbW2 hszW2 hc2 _
        have q0 : W2.cell? ⟨w1.heap.size, 0, none⟩ = some (.string (B nm)) := hc2 0 _ rfl
        clear hc2
        have hI := idxA_any 81 #[.pointer (some ⟨w1.heap.size, 0, none⟩)] fn_sorted1 _ _ _ W2 (hown1.keep hbW2).names (by rw [List.length_map]; omega) (sorted1_any.pred w1.heap.size (B nm) _ W2 q0)
        rw [Idn.L_B] at hI
        have hix : idxP (fun x : Bs × Nat => decide (x.1 = nm)) (ps.map fun p => (p.1.name, p.1.vals.length)) = idxP (fun a : Idn.Att => decide (a.name = nm)) (ps.map (·.1)) := by unfold idxP; rw [ixAdd]
        rw [hix] at hI
        clear hix
        refine hI.mono ?_
        rintro e w2 ⟨rfl, hb2⟩
        have hb12 := hbW2.trans (hb2.mono hbW2.size)
        have hown2 := hown1.keep hb12
        have q2 := cell_later hb2 q0
        have d2 := cell_later hb12 d1
        have hbo2 := hbo1.trans (hb12.mono hbo1.size)
        have hbw2 := hb.trans (hbo2.mono hb.size)
        clear hI hown1 d1 q0 hszW2
        go_upto_if 22 with fail
        go_cut [3, 7] (fun u i wx => ∃ (qs : List (Idn.Att × Value)) (j : Nat) (p : Idn.Att × Value), i = .int .i64 j ∧ AttOwn wx w.heap.size u qs ∧ qs[j]? = some p ∧ Hid ((qs.map (·.1)).set j ⟨p.1.name, p.1.vals ++ l[k].vals⟩ = Idn.addA (ps.map (·.1)) nm l[k].vals) ∧ qs.length ≤ k + 1 ∧ (∀ p ∈ qs, p.1.vals.length ≤ k * 1000000) ∧ Below w.heap.size w wx ∧ wx.cell? ⟨wo.heap.size, 1, none⟩ = some (.slice Av l[k].vals.length cv))
        case first =>
          cases hx : (ps.map (·.1)).findIdx? (fun a => decide (a.name = nm)) with
          | none =>
            have hAd := Idn.addA_none l[k].vals hx
            rw [idxP_none hx]
            clear hx
            go_wp2_with (at_builtin; refine wpList_push w2 rfl _ _ 22 rfl w.heap.size 48 (.agg #[.string ⟨#[]⟩, .slice none 0 0]) 2 40 Tryz.underlying22 info_attr rfl (by decide) _ ps.length _ hown2.1 rfl [.string (B nm), .slice none 0 0] rfl rfl (by intro u hu; simp at hu; rcases hu with rfl | rfl <;> rfl) (by omega) hbw2.size ?_ rfl)
            intro v' w3 hown3 hg3 hat3 hb3 _
            have hP := hown2.push (n := nm) hown3 hg3
            have d3 : w3.cell? ⟨wo.heap.size, 1, none⟩ = some (.slice Av l[k].vals.length cv) := by
              rw [World.cell?_of_block (w := w2) (hg3.block wo.heap.size (World.block_lt_of_cell? _ _ d2) (fun e => by have := hlo _ e.symm; omega))]
              exact d2
            have HS : Hid (((ps ++ [((⟨nm, []⟩ : Idn.Att), Value.slice none 0 0)]).map (·.1)).set ps.length ⟨nm, [] ++ l[k].vals⟩ = Idn.addA (ps.map (·.1)) nm l[k].vals) := by
              show _ = _
              rw [hAd, List.map_append, List.set_append_right _ _ (by simp)]
              simp
            clear hAd
            go_wp2_with fail
            go_meet
            refine ⟨_, ps.length, (⟨nm, []⟩, .slice none 0 0), rfl, hP, by simp, HS, by simp; omega, ?_, hbw2.trans hb3, d3⟩
            intro p hp
            rcases List.mem_append.1 hp with hp | hp
            · exact hpv p hp
            · simp at hp; subst hp; simp
          | some j =>
            have hjl : j < (ps.map (·.1)).length := (List.findIdx?_eq_some_iff_getElem.1 hx).1
            have hAd := Idn.addA_some l[k].vals hx hjl
            rw [idxP_some hx]
            have hj0 : ¬ ((j : Int) < 0) := by omega
            rw [List.length_map] at hjl
            have HS : Hid ((ps.map (·.1)).set j ⟨ps[j].1.name, ps[j].1.vals ++ l[k].vals⟩ = Idn.addA (ps.map (·.1)) nm l[k].vals) := by
              show _ = _
              rw [hAd]; simp
            clear hx hAd
            go_wp2_with fail
            go_meet
            exact ⟨ps, j, ps[j], rfl, hown2, List.getElem?_eq_getElem hjl, HS, by omega, hpv, hbw2, d2⟩
        case rest =>
          obtain ⟨qs, j, p, rfl, hownc, hpj, hset, hql, hqv, hbc, d3⟩ := hcut
          have hjl := (List.getElem?_eq_some_iff.1 hpj).1
          obtain ⟨g, cap, hu, _, hgl⟩ := hownc.1.form (by omega)
          subst hu
          have hjI : (j : Int) < (qs.length : Int) := by omega
          obtain ⟨Ap, cp, hup⟩ := own_shape (hownc.2.1 p (List.mem_of_getElem? hpj))
          have hcells : wc.cell? ⟨g, j * 2 + 1, none⟩ = some (.slice Ap p.1.vals.length cp) := by
            have e : ∀ j, ((⟨g, 0, none⟩ : Addr).add j) = ⟨g, j, none⟩ := fun j => by unfold Addr.add; split <;> simp_all
            have := hownc.1.cells (g := g) rfl _ _ (rowA_at qs j p hpj).2
            rw [e, hup] at this
            exact this
          have hownd : AttOwn wc.drew w.heap.size (.slice (some ⟨g, 0, none⟩) qs.length cap) qs := hownc
          have hownp : wc.drew.ownsRow w.heap.size 9 1 (.slice Ap p.1.vals.length cp) p.1.vals.length (p.1.vals.map sv) := by
            have := hownc.2.1 p (List.mem_of_getElem? hpj)
            rw [hup] at this
            exact this
          have hvd : StrsV wc.drew w.heap.size (.slice Av l[k].vals.length cv) l[k].vals := by
            have : StrsV wc w.heap.size (.slice Av l[k].vals.length cv) l[k].vals := SlV.keep hva hbc
            exact this
          have hbd : w.heap.size ≤ wc.drew.heap.size := hbc.size
          have hpk := hqv p (List.mem_of_getElem? hpj)
          have hkk : k * 1000000 ≤ 1000 * 1000000 := Nat.mul_le_mul_right _ (by omega)
          clear hownc hown2 hb12 hb1 hbW hbo1 hbo2 hbw2 hb2 hbW2 q2 d2
          go_wp2_with fail
          go_region_law (refine step_appendS rfl _ _ 45 rfl w.heap.size 9 Tryz.underlying45 info_str _ _ _ hownp rfl _ l[k].vals _ hvd rfl (by omega) hbd ?_; intro v' w' hown' hg' hat'; obtain ⟨st1, st2, hnew⟩ := hownd.grow hpj hown' (by rw [hup]; exact hg') (by rw [hup]; exact hat'); rw [hup] at st1; obtain ⟨A9, c9, hv9⟩ := own_shape hown'; subst hv9)
          all_goals
            have hHF : Hid (Idn.grp ((qs.set j (⟨p.1.name, p.1.vals ++ l[k].vals⟩, .slice A9 (p.1.vals.length + l[k].vals.length) c9)).map (·.1)) (l.drop (k + 1)) = Idn.grp [] l) := by
              show _ = _
              rw [List.map_set, hset.out, ← hstep]; exact hinv.out
            have hgb : w.heap.size ≤ g := (hownd.1.lt g rfl).1
            have hbf : Below w.heap.size w (w'.setCell ⟨g, j * 2 + 1, none⟩ (.slice A9 (p.1.vals.length + l[k].vals.length) c9)) :=
              (((hbc.drew).grown hg' hbc.size (fun k' hk' => (hownp.lt k' hk').1))).setCell (p := ⟨g, j * 2 + 1, none⟩) hgb _
            go_wp2_with fail
            go_roundw
            case rel =>
              refine ⟨k + 1, _, by omega, by go_num, hnew, hbf, hHF, by rw [List.length_set]; exact hql, fun q hq => ?_⟩
              rcases List.mem_or_eq_of_mem_set hq with hq | rfl
              · exact Nat.le_trans (hqv q hq) (Nat.mul_le_mul_right _ (Nat.le_succ k))
              · show (p.1.vals ++ l[k].vals).length ≤ _; rw [List.length_append, Nat.succ_mul]; exact Nat.add_le_add hpk hv9
            case measure => simp [intOf]; omega
      · have hltI : ¬ (k : Int) < (l.length : Int) := by omega
        have HF : Hid (ps.map (·.1) = Idn.grp [] l) := by show _ = _; rw [← hinv.out, List.drop_eq_nil_of_le (by omega)]; rfl
        go_wp2_with fail
        go_meet
        refine ⟨ps, hown, hb, HF, by omega, fun p hp => ?_⟩
        have := hpv p hp
        have : k * 1000000 ≤ 1000 * 1000000 := Nat.mul_le_mul_right _ (by omega)
        omega
  case rest =>
    obtain ⟨ps0, hown0, hb, hps0, hpl0, hpv0⟩ := hcut
    have hD := delA_any 83 #[] fn_sorted2 (fun x => ((x.2 : Nat) : Int) == 0) w.heap.size _ ps0 wc hown0 hb.size (by omega) (fun g _ => sorted2_pred g wc)
    have hps1 := full_map ps0
    have hne0 : ∀ p ∈ (ps0.filter fun q => !((((nmA q).2 : Nat) : Int) == 0)), p.1.vals.length ≠ 0 := fun p hp h0 => by
      have := (List.mem_filter.1 hp).2
      unfold nmA at this
      rw [h0] at this
      simp at this
    have hpl1 : (ps0.filter fun q => !((((nmA q).2 : Nat) : Int) == 0)).length ≤ 1000 := Nat.le_trans (List.length_filter_le _ _) hpl0
    have hpv1 : ∀ p ∈ (ps0.filter fun q => !((((nmA q).2 : Nat) : Int) == 0)), p.1.vals.length ≤ 1000000000 := fun p hp => hpv0 p (List.mem_filter.1 hp).1
    rw [hps0.out] at hps1
    generalize (ps0.filter fun q => !((((nmA q).2 : Nat) : Int) == 0)) = ps at *
    have hps := Lib.hid hps1
    have hne' := hne0
    have hpl := hpl1
    have hpv := hpv1
    obtain ⟨Au0, cu0, hu0⟩ := own_shape hown0.1
    subst hu0
    clear hown0 hps0 hpl0 hpv0 hps1 hne0 hpl1 hpv1
    go_wp2_with fail
    refine hD.mono ?_
    rintro e w1 ⟨v1, rfl, hown1, hb1⟩
    have hbw1 := hb.trans hb1
    obtain ⟨Au, cu, hu⟩ := own_shape hown1.1
    subst hu
    clear hD
    go_upto_block 2 with fail
    go_cut [] (fun wx => ∃ qs, AttOwn wx w.heap.size (.slice Au ps.length cu) qs ∧ Below w.heap.size w wx ∧ Hid (qs.map (·.1) = (ps.map (·.1)).map Idn.normA) ∧ qs.length = ps.length)
    case first =>
      go_wp2_with fail
      go_loopw [8, 47] (fun _ i wr => ∃ (k : Nat) (qs : List (Idn.Att × Value)), k ≤ ps.length ∧ i = .int .i64 k ∧ AttOwn wr w.heap.size (.slice Au ps.length cu) qs ∧ Below w.heap.size w wr ∧ Hid (qs.map (·.1) = ((ps.map (·.1)).take k).map Idn.normA ++ (ps.map (·.1)).drop k) ∧ qs.length = ps.length) (fun _ i _ => ps.length - (intOf i).toNat)
      case atStart => exact ⟨0, ps, Nat.zero_le _, rfl, hown1, hbw1, by show _ = _; simp, rfl⟩
      case round =>
        obtain ⟨k, qs, hk, rfl, hown, hbr, hinv, hql⟩ := hrel
        by_cases hlt : k < ps.length
        · have hltI : (k : Int) < (ps.length : Int) := by omega
          obtain ⟨q, hqk⟩ : ∃ q, qs[k]? = some q := ⟨_, List.getElem?_eq_getElem (by omega)⟩
          obtain ⟨g, cap, hu, _, hgl⟩ := hown.1.form (by omega)
          injection hu with hu1 hu2 hu3
          subst hu1 hu3
          have hqm : q ∈ qs := List.mem_of_getElem? hqk
          have hq1 : q.1 = ps[k].1 := by
            have := congrArg (·[k]?) hinv.out
            simp only [List.getElem?_map, hqk, Option.map_some] at this
            rw [List.getElem?_append_right (by simp; omega)] at this
            simp [hlt, Nat.min_eq_left (Nat.le_of_lt hlt)] at this
            exact this
          have hpm : ps[k] ∈ ps := List.getElem_mem _
          have hvn := hne' _ hpm
          have hvb := hpv _ hpm
          obtain ⟨k0, k1, kf, kb⟩ := hown.cell hqk
          have hou := hown.2.1 _ hqm
          rw [hq1] at hou
          obtain ⟨g1, cap1, hv1, hgb1, hg1⟩ := hou.form (by omega)
          rw [hv1] at hou k1
          have hSo := sort_own g1 cap1 ps[k].1.vals w.heap.size wr hou (by omega) hvb hbr.size
          have hHq : Hid (qs.set k (⟨ps[k].1.name, Lib.compact (sorted ps[k].1.vals)⟩, q.2) = qs.set k (⟨ps[k].1.name, Lib.compact (sorted ps[k].1.vals)⟩, q.2)) := rfl
          have HQK := Lib.hid hqk
          have HQ1 := Lib.hid hq1
          have HV1 := Lib.hid hv1
          have HQL := Lib.hid hql
          clear hHq hqk hq1 hv1 hql k0 hu2
          go_wp2_with fail
          refine hSo.mono ?_
          rintro e w2 ⟨rfl, hou2, hg2⟩
          have hsl : (sorted ps[k].1.vals).length = ps[k].1.vals.length := sorted_len _
          have hou2' : w2.ownsRow w.heap.size 9 1 (.slice (some ⟨g1, 0, none⟩) (sorted ps[k].1.vals).length cap1) (sorted ps[k].1.vals).length ((sorted ps[k].1.vals).map sv) := by rw [hsl]; exact hou2
          have hown2 := hown.turn (vals := sorted ps[k].1.vals) HQK.out (by rw [HV1.out, hsl]; exact hou2) (by rw [HV1.out]; exact hg2)
          have hk2 : (qs.set k (⟨q.1.name, sorted ps[k].1.vals⟩, q.2))[k]? = some (⟨q.1.name, sorted ps[k].1.vals⟩, q.2) := by simp [HQL.out, hlt]
          obtain ⟨_, k12, kf2, _⟩ := hown2.cell hk2
          rw [HV1.out] at k12
          have hb2 : Below w.heap.size w w2 := hbr.grown hg2 hbr.size (fun x hx => by injection hx with hx; omega)
          have hCo := compact_own g1 cap1 (sorted ps[k].1.vals) w.heap.size w2 hou2' (by rw [hsl]; omega) (by rw [hsl]; exact hvb)
          rw [hsl] at hCo
          have hgl2 : g < w2.heap.size := World.block_lt_of_cell? _ _ k12
          clear hSo hown hou2 hou2' hou kf k1 hsl
          go_wp2_with fail
          refine hCo.mono ?_
          rintro e w3 ⟨rfl, hou3, hg3⟩
          clear hCo
          obtain ⟨st1, st2, hown3⟩ := hown2.put (u' := .slice (some ⟨g1, 0, none⟩) (Lib.compact (sorted ps[k].1.vals)).length cap1) hk2 hou3 (by rw [HV1.out]; exact hg3) (.inl (by rw [HV1.out]; rfl))
          dsimp only at st1 hown3
          rw [HV1.out] at st1
          have hb3 : Below w.heap.size w w3 := hb2.grown hg3 hb2.size (fun x hx => by injection hx with hx; omega)
          have hgl3 : g < w3.heap.size := World.block_lt_of_cell? _ _ st1
          have HF : Hid (((qs.set k (⟨q.1.name, sorted ps[k].1.vals⟩, q.2)).set k (⟨q.1.name, Lib.compact (sorted ps[k].1.vals)⟩, .slice (some ⟨g1, 0, none⟩) (Lib.compact (sorted ps[k].1.vals)).length cap1)).map (·.1) = ((ps.map (·.1)).take (k + 1)).map Idn.normA ++ (ps.map (·.1)).drop (k + 1)) := by
            show _ = _
            rw [List.set_set, List.map_set, hinv.out, HQ1.out]
            have hl : k < (ps.map (·.1)).length := by simpa using hlt
            rw [List.set_append_right _ _ (by simp; omega), List.take_succ_eq_append_getElem hl, List.map_append, List.drop_eq_getElem_cons hl]
            simp [Nat.min_eq_left (Nat.le_of_lt hlt)]
            rfl
          clear hown2 hk2 k12 kf2 hou3
          go_wp2_with fail
          go_roundw
          case rel => exact ⟨k + 1, _, by omega, by go_num, hown3, hb3.setCell (p := ⟨g, k * 2 + 1, none⟩) kb _, HF, by rw [List.length_set, List.length_set]; exact HQL.out⟩
          case measure => simp [intOf]; omega
        · have hltI : ¬ (k : Int) < (ps.length : Int) := by omega
          have HF : Hid (qs.map (·.1) = (ps.map (·.1)).map Idn.normA) := by
            show _ = _
            rw [hinv.out, List.take_of_length_le (by simp; omega), List.drop_eq_nil_of_le (by simp; omega), List.append_nil]
          go_wp2_with fail
          go_meet
          exact ⟨qs, hown, hbr, HF, hql⟩
    case rest =>
      obtain ⟨qs, hown, hb, hq, hql⟩ := hcut
      have hnd : ((qs.map (·.1)).map (·.name)).Nodup := by
        rw [hq.out, Idn.norm_names, hps.out]
        exact (List.filter_sublist.map _).nodup (Idn.grp_nd l [] (by simp))
      have hS := sortA_any _ w.heap.size qs wc hown hb.size (by omega) hnd
      rw [hq.out, hps.out, Idn.sortedG_law] at hS
      clear hown
      go_wp2_with fail
      refine hS.mono ?_
      rintro e w4 ⟨rfl, qs', hown', hq', hb'⟩
      clear hS
      go_wp2_with fail
      go_ret
      exact ⟨_, qs', rfl, hown', hq', hb.trans hb'⟩
end Go.Proofs.YtoopoglkeeoamaaGreatDoor
/- attrs: Names, Get, at attributes that may have no values. -/
namespace Go.Proofs.YtoopoglkeeoamaaGreatDoor
open Go.RowKit Go.Sort
open Idn (L B Bs drop_L take_L size_L)

theorem rSorted_le (l : List Idn.Att) : (Idn.rSorted l).length ≤ l.length := by
  rw [← Idn.sortedG_law, List.length_mergeSort, List.length_map]
  have h1 := List.length_filter_le Idn.full (Idn.grp [] l)
  have h2 := grp_len l []
  simp only [List.length_nil, Nat.zero_add] at h2
  omega
theorem rGet_len {l : List Idn.Att} (hs : Idn.ASm7 l) (n : Bs) : (rGet l n).length ≤ 1000000000 := by
  unfold rGet
  split
  · simp
  · split
    · simp
    · rename_i a ha
      have hm := List.mem_of_getElem? ha
      rw [← Idn.sortedG_law] at hm
      obtain ⟨b, hb, rfl⟩ := List.mem_map.1 ((List.mergeSort_perm _ _).mem_iff.1 hm)
      have h1 := Lib.compact_length_le (Idn.srt b.vals)
      have h2 : (Idn.srt b.vals).length = b.vals.length := by simp [Idn.srt]
      have h3 := Idn.grp_le 1100000 l [] 0 (by simp) (fun a ha => (hs.2 a ha).2.1) b (List.mem_filter.1 hb).1
      have h4 := Nat.mul_le_mul_right 1100000 hs.1
      show (Lib.compact (Idn.srt b.vals)).length ≤ _
      omega
set_option maxHeartbeats 1000000 in
set_option maxRecDepth 100000 in
theorem getG_any (v : Value) (l : List Idn.Att) (n : ByteArray) (w : World) (hv : AttsV w w.heap.size v l) (hs : Idn.ASm7 l) (hn : n.size ≤ 1000000000) :
    Calls Tryz.prog 70 #[v, .string n] w fun e w' => ∃ A c, e = .returned (.slice A (rGet l (L n)).length (rGet l (L n)).length) ∧ w'.ownsRow w.heap.size 9 1 (.slice A (rGet l (L n)).length c) (rGet l (L n)).length ((rGet l (L n)).map sv) ∧ Below w.heap.size w w' := by
  have hS := sortedG_any v l w hv hs
  have hgl := rSorted_le l
  have hl1 := hs.1
  have hres : Hid (rGet l (L n) = match (Idn.rSorted l).findIdx? (fun a => decide (a.name = Idn.lower (L n))) with
    | none => []
    | some k => match (Idn.rSorted l)[k]? with | none => [] | some a => a.vals) := rfl
  have hbd := rGet_len hs (L n)
  generalize rGet l (L n) = res at *
  generalize Idn.rSorted l = q at *
  have hq : q.length ≤ 1000 := by omega
  obtain ⟨A0, c0, rfl, hc0⟩ := SlV.shape hv
  clear hv hs hgl
  go_enter Tryz.func70, Tryz.ntmps70
  go_wp2_with fail
  refine hS.mono ?_
  rintro e w1 ⟨v1, ps, rfl, hown, hpq, hb1⟩
  have hpl : ps.length = q.length := by rw [← hpq, List.length_map]
  have hF := find_any v1 q n w1 (hown.atts hpq) (by omega) hn
  obtain ⟨A, c, hv1⟩ := own_shape hown.1
  subst hv1
  clear hS
  have HPL := Lib.hid hpl
  have HPQ := Lib.hid hpq
  have hpl9 : ps.length ≤ 1000 := by omega
  clear hpq hpl
  cases hx : q.findIdx? (fun a => decide (a.name = Idn.lower (L n))) with
  | none =>
    have HF : Hid (res = []) := by show _ = _; rw [hres.out, hx]
    rw [idxP_none hx] at hF
    clear hx
    go_wp2_with fail
    refine hF.mono ?_
    rintro e w2 ⟨rfl, hb2⟩
    go_wp2
    go_ret
    exact ⟨none, 0, by rw [HF.out]; rfl, by rw [HF.out]; exact World.ownsRow_nil _ _ _ _, hb1.trans (hb2.mono hb1.size)⟩
  | some k =>
    have hkl : k < q.length := (List.findIdx?_eq_some_iff_getElem.1 hx).1
    have HF : Hid (res = q[k].vals) := by show _ = _; rw [hres.out, hx]; simp [hkl]
    rw [idxP_some hx] at hF
    have hkp : k < ps.length := by rw [HPL.out]; exact hkl
    have hkI : (k : Int) < (ps.length : Int) := by omega
    have hk0 : ¬ ((k : Int) < 0) := by omega
    clear hx
    obtain ⟨g, cap, hu, _, hgl⟩ := hown.1.form (by omega)
    injection hu with hu1 hu2 hu3
    subst hu1 hu3
    have hpk : ps[k]? = some ps[k] := List.getElem?_eq_getElem (by omega)
    have hp1 : ps[k].1 = q[k] := by
      have := HPQ.out
      subst this
      simp
    have HP1 := Lib.hid hp1
    have hpm : ps[k] ∈ ps := List.getElem_mem _
    clear hp1
    generalize ps[k] = p at *
    have HPK := Lib.hid hpk
    clear hpk
    obtain ⟨Av, cv, hup⟩ := own_shape (hown.2.1 p hpm)
    go_wp2_with fail
    refine hF.mono ?_
    rintro e w2 ⟨rfl, hb2⟩
    have hown2 := hown.keep hb2
    obtain ⟨c0, c1, _, _⟩ := hown2.cell HPK.out
    have ho := hown2.2.1 p hpm
    rw [hup] at c1 ho
    obtain ⟨Aw, cw, ew, hcw, hrd⟩ := StrsV.of_own ho
    injection ew with ew1 ew2 ew3
    subst ew1
    have hvc : (p.1.vals.length : Int) ≤ (cv : Int) := by omega
    have hv0 : (0 : Int) ≤ (p.1.vals.length : Int) := by omega
    have HO := Lib.hid ho
    clear hF hown hown2 ho hup hpm
    go_wp2
    go_ret
    exact ⟨Av, cv, by rw [HF.out, ← HP1.out]; rfl, by rw [HF.out, ← HP1.out]; exact own_base HO.out (Nat.le_refl _), hb1.trans (hb2.mono hb1.size)⟩
end Go.Proofs.YtoopoglkeeoamaaGreatDoor
