/- Part 33 of the proof that identitylaw08.EntryApplies returns true: the package variables hold what the program lays; nothing else is asked. -/
import Derived.Test.YtoopoglkeeoamaaGreatDoorEap30
import Derived.Test.YtoopoglkeeoamaaGreatDoorEap32
import Derived.Deep.AppendLies
set_option linter.unusedVariables false
set_option linter.unusedSimpArgs false
set_option maxRecDepth 100000
set_option maxHeartbeats 8000000
/- attrs: Sorted. -/
namespace Go.Proofs.YtoopoglkeeoamaaGreatDoor
open Go.RowKit Go.Sort
open Idn (L B Bs drop_L take_L size_L)
theorem info_attr : (Tryz.prog.info? 48).map (fun i => (i.zero, i.size, i.bytes)) = some (some (.agg #[.string ⟨#[]⟩, .slice none 0 0]), 2, 40) := by kernel_rfl
theorem ixAdd {ps : List (Idn.Att × Value)} {n : Bs} : (ps.map fun p => (p.1.name, p.1.vals.length)).findIdx? (fun x => decide (x.1 = n)) = (ps.map (·.1)).findIdx? (fun a => decide (a.name = n)) := by
 rw [findIdx_map, findIdx_map]
theorem sortedO_any (v : Value) (l : List Idn.Att) (w : World) (hv : AttsV w w.heap.size v l) (hs : Idn.ASm7 l) (hne : ∀ a ∈ l, a.vals.length ≠ 0) :
    Calls Tryz.prog 35 #[v] w fun e w' => ∃ v' ps, e = .returned v' ∧ AttOwn w' w.heap.size v' ps ∧ ps.map (·.1) = Idn.aSorted l ∧ Below w.heap.size w w' := by
  obtain ⟨A, c, rfl, hc⟩ := SlV.shape hv
  have hl1 := hs.1
  go_enter Tryz.func35, Tryz.ntmps35
  go_upto_block 0 with fail
  go_cut [3] (fun u wx => ∃ ps, AttOwn wx w.heap.size u ps ∧ Below w.heap.size w wx ∧ Hid (ps.map (·.1) = Idn.grp [] l) ∧ ps.length ≤ 1000 ∧ ∀ p ∈ ps, p.1.vals.length ≤ 1000000000)
  case first =>
    go_wp2_with fail
    go_loopw [3, 11] (fun u i wr => ∃ (k : Nat) (ps : List (Idn.Att × Value)), k ≤ l.length ∧ i = .int .i64 k ∧ AttOwn wr w.heap.size u ps ∧ Below w.heap.size w wr ∧ Hid (Idn.grp (ps.map (·.1)) (l.drop k) = Idn.grp [] l) ∧ ps.length ≤ k ∧ ∀ p ∈ ps, p.1.vals.length ≤ k * 1100000) (fun _ i _ => l.length - (intOf i).toNat)
    case atStart => exact ⟨0, [], Nat.zero_le _, rfl, AttOwn.nil _ _, Below.refl _ _, rfl, Nat.le_refl _, by simp⟩
    case round =>
      obtain ⟨k, ps, hk, rfl, hown, hb, hinv, hpl, hpv⟩ := hrel
      by_cases hlt : k < l.length
      · obtain ⟨b, off, va, rfl, hbl, c0, c1, hva⟩ := AttsV.cell hv hlt
        obtain ⟨Av, cv, rfl, hcv⟩ := SlV.shape hva
        replace c0 := (hb.cell (p := ⟨b, off + k * 2, none⟩) hbl).trans c0
        replace c1 := (hb.cell (p := ⟨b, off + k * 2 + 1, none⟩) hbl).trans c1
        have hltI : (k : Int) < (l.length : Int) := by omega
        obtain ⟨hn9, hv9, _⟩ := hs.2 l[k] (List.getElem_mem hlt)
        have hL := fun W => lower_any (B l[k].name) W (by rw [Idn.size_B]; omega)
        rw [Idn.L_B] at hL
        have hstep := Idn.grp_step l k hlt (ps.map (·.1))
        generalize Idn.lower l[k].name = nm at *
        obtain ⟨wo, hwo⟩ : ∃ wo : World, wo = wr := ⟨_, rfl⟩
        subst hwo
        go_wp2_with fail
        with_reducible refine gen1 (R := fun W => Calls Tryz.prog 49 _ W _) ?_
        intro W hbW hszW hc1 _
        have d0 : W.cell? ⟨wo.heap.size, 0, none⟩ = some (.string (B l[k].name)) := hc1 0 _ rfl
        have d1 : W.cell? ⟨wo.heap.size, 1, none⟩ = some (.slice Av l[k].vals.length cv) := hc1 1 _ rfl
        clear hc1 hszW c0 c1
        refine (hL W).mono ?_
        rintro e w1 ⟨rfl, hb1⟩
        clear hL
        have hbo1 := hbW.trans (hb1.mono hbW.size)
        replace d1 := cell_later hb1 d1
        have hown1 := hown.keep hbo1
        have hlo := fun g => own_lt hown.1 (g := g)
        clear hown d0
        obtain ⟨Au, cu, hu⟩ := own_shape hown1.1
        rw [hu] at hlo
        subst hu
        go_wp2_with fail
        with_reducible refine gen1 (R := fun W => Calls Tryz.prog 80 _ W _) ?_
        intro W2 hbW2 hszW2 hc2 _
        have q0 : W2.cell? ⟨w1.heap.size, 0, none⟩ = some (.string (B nm)) := hc2 0 _ rfl
        clear hc2
        have hI := idxA_any 81 #[.pointer (some ⟨w1.heap.size, 0, none⟩)] fn_sorted1 _ _ _ W2 (hown1.keep hbW2).names (by rw [List.length_map]; omega) (sorted1_any.pred w1.heap.size (B nm) _ W2 q0)
        rw [Idn.L_B] at hI
        have hix : idxP (fun x : Bs × Nat => decide (x.1 = nm)) (ps.map fun p => (p.1.name, p.1.vals.length)) = idxP (fun a : Idn.Att => decide (a.name = nm)) (ps.map (·.1)) := by unfold idxP; rw [ixAdd]
        rw [hix] at hI
        clear hix
        refine hI.mono ?_
        rintro e w2 ⟨rfl, hb2⟩
        have hb12 := hbW2.trans (hb2.mono hbW2.size)
        have hown2 := hown1.keep hb12
        have q2 := cell_later hb2 q0
        have d2 := cell_later hb12 d1
        have hbo2 := hbo1.trans (hb12.mono hbo1.size)
        have hbw2 := hb.trans (hbo2.mono hb.size)
        clear hI hown1 d1 q0 hszW2
        go_upto_if 22 with fail
        go_cut [3, 7] (fun u i wx => ∃ (qs : List (Idn.Att × Value)) (j : Nat) (p : Idn.Att × Value), i = .int .i64 j ∧ AttOwn wx w.heap.size u qs ∧ qs[j]? = some p ∧ Hid ((qs.map (·.1)).set j ⟨p.1.name, p.1.vals ++ l[k].vals⟩ = Idn.addA (ps.map (·.1)) nm l[k].vals) ∧ qs.length ≤ k + 1 ∧ (∀ p ∈ qs, p.1.vals.length ≤ k * 1100000) ∧ Below w.heap.size w wx ∧ wx.cell? ⟨wo.heap.size, 1, none⟩ = some (.slice Av l[k].vals.length cv))
        case first =>
          cases hx : (ps.map (·.1)).findIdx? (fun a => decide (a.name = nm)) with
          | none =>
            have hAd := Idn.addA_none l[k].vals hx
            rw [idxP_none hx]
            clear hx
            go_wp2_with (at_builtin; refine wpList_push w2 rfl _ _ 22 rfl w.heap.size 48 (.agg #[.string ⟨#[]⟩, .slice none 0 0]) 2 40 Tryz.underlying22 info_attr rfl (by decide) _ ps.length _ hown2.1 rfl [.string (B nm), .slice none 0 0] rfl rfl (by intro u hu; simp at hu; rcases hu with rfl | rfl <;> rfl) (by omega) hbw2.size ?_ rfl)
            intro v' w3 hown3 hg3 hat3 hb3 _
            have hP := hown2.push (n := nm) hown3 hg3
            have d3 : w3.cell? ⟨wo.heap.size, 1, none⟩ = some (.slice Av l[k].vals.length cv) := by
              rw [World.cell?_of_block (w := w2) (hg3.block wo.heap.size (World.block_lt_of_cell? _ _ d2) (fun e => by have := hlo _ e.symm; omega))]
              exact d2
            have HS : Hid (((ps ++ [((⟨nm, []⟩ : Idn.Att), Value.slice none 0 0)]).map (·.1)).set ps.length ⟨nm, [] ++ l[k].vals⟩ = Idn.addA (ps.map (·.1)) nm l[k].vals) := by
              show _ = _
              rw [hAd, List.map_append, List.set_append_right _ _ (by simp)]
              simp
            clear hAd
            go_wp2_with fail
            go_meet
            refine ⟨_, ps.length, (⟨nm, []⟩, .slice none 0 0), rfl, hP, by simp, HS, by simp; omega, ?_, hbw2.trans hb3, d3⟩
            intro p hp
            rcases List.mem_append.1 hp with hp | hp
            · exact hpv p hp
            · simp at hp; subst hp; simp
          | some j =>
            have hjl : j < (ps.map (·.1)).length := (List.findIdx?_eq_some_iff_getElem.1 hx).1
            have hAd := Idn.addA_some l[k].vals hx hjl
            rw [idxP_some hx]
            have hj0 : ¬ ((j : Int) < 0) := by omega
            rw [List.length_map] at hjl
            have HS : Hid ((ps.map (·.1)).set j ⟨ps[j].1.name, ps[j].1.vals ++ l[k].vals⟩ = Idn.addA (ps.map (·.1)) nm l[k].vals) := by
              show _ = _
              rw [hAd]; simp
            clear hx hAd
            go_wp2_with fail
            go_meet
            exact ⟨ps, j, ps[j], rfl, hown2, List.getElem?_eq_getElem hjl, HS, by omega, hpv, hbw2, d2⟩
        case rest =>
          obtain ⟨qs, j, p, rfl, hownc, hpj, hset, hql, hqv, hbc, d3⟩ := hcut
          have hjl := (List.getElem?_eq_some_iff.1 hpj).1
          obtain ⟨g, cap, hu, _, hgl⟩ := hownc.1.form (by omega)
          subst hu
          have hjI : (j : Int) < (qs.length : Int) := by omega
          obtain ⟨Ap, cp, hup⟩ := own_shape (hownc.2.1 p (List.mem_of_getElem? hpj))
          have hcells : wc.cell? ⟨g, j * 2 + 1, none⟩ = some (.slice Ap p.1.vals.length cp) := by
            have e : ∀ j, ((⟨g, 0, none⟩ : Addr).add j) = ⟨g, j, none⟩ := fun j => by unfold Addr.add; split <;> simp_all
            have := hownc.1.cells (g := g) rfl _ _ (rowA_at qs j p hpj).2
            rw [e, hup] at this
            exact this
          have hownd : AttOwn wc.drew w.heap.size (.slice (some ⟨g, 0, none⟩) qs.length cap) qs := hownc
          have hownp : wc.drew.ownsRow w.heap.size 9 1 (.slice Ap p.1.vals.length cp) p.1.vals.length (p.1.vals.map sv) := by
            have := hownc.2.1 p (List.mem_of_getElem? hpj)
            rw [hup] at this
            exact this
          have hvd : StrsV wc.drew w.heap.size (.slice Av l[k].vals.length cv) l[k].vals := by
            have : StrsV wc w.heap.size (.slice Av l[k].vals.length cv) l[k].vals := SlV.keep hva hbc
            exact this
          have hbd : w.heap.size ≤ wc.drew.heap.size := hbc.size
          have hpk := hqv p (List.mem_of_getElem? hpj)
          have hkk : k * 1100000 ≤ 900 * 1100000 := Nat.mul_le_mul_right _ (by omega)
          clear hownc hown2 hb12 hb1 hbW hbo1 hbo2 hbw2 hb2 hbW2 q2 d2
          go_wp2_with fail
          go_region_law (refine step_appendS rfl _ _ 45 rfl w.heap.size 9 Tryz.underlying45 info_str _ _ _ hownp rfl _ l[k].vals _ hvd rfl (by omega) hbd ?_; intro v' w' hown' hg' hat'; obtain ⟨st1, st2, hnew⟩ := hownd.grow hpj hown' (by rw [hup]; exact hg') (by rw [hup]; exact hat'); rw [hup] at st1; obtain ⟨A9, c9, hv9⟩ := own_shape hown'; subst hv9)
          all_goals
            have hHF : Hid (Idn.grp ((qs.set j (⟨p.1.name, p.1.vals ++ l[k].vals⟩, .slice A9 (p.1.vals.length + l[k].vals.length) c9)).map (·.1)) (l.drop (k + 1)) = Idn.grp [] l) := by
              show _ = _
              rw [List.map_set, hset.out, ← hstep]; exact hinv.out
            have hgb : w.heap.size ≤ g := (hownd.1.lt g rfl).1
            have hbf : Below w.heap.size w (w'.setCell ⟨g, j * 2 + 1, none⟩ (.slice A9 (p.1.vals.length + l[k].vals.length) c9)) :=
              (((hbc.drew).grown hg' hbc.size (fun k' hk' => (hownp.lt k' hk').1))).setCell (p := ⟨g, j * 2 + 1, none⟩) hgb _
            go_wp2_with fail
            go_roundw
            case rel =>
              refine ⟨k + 1, _, by omega, by go_num, hnew, hbf, hHF, by rw [List.length_set]; exact hql, fun q hq => ?_⟩
              rcases List.mem_or_eq_of_mem_set hq with hq | rfl
              · exact Nat.le_trans (hqv q hq) (Nat.mul_le_mul_right _ (Nat.le_succ k))
              · show (p.1.vals ++ l[k].vals).length ≤ _; rw [List.length_append, Nat.succ_mul]; exact Nat.add_le_add hpk hv9
            case measure => simp [intOf]; omega
      · have hltI : ¬ (k : Int) < (l.length : Int) := by omega
        have HF : Hid (ps.map (·.1) = Idn.grp [] l) := by show _ = _; rw [← hinv.out, List.drop_eq_nil_of_le (by omega)]; rfl
        go_wp2_with fail
        go_meet
        refine ⟨ps, hown, hb, HF, by omega, fun p hp => ?_⟩
        have := hpv p hp
        have : k * 1100000 ≤ 900 * 1100000 := Nat.mul_le_mul_right _ (by omega)
        omega
  case rest =>
    obtain ⟨ps, hown, hb, hps, hpl, hpv⟩ := hcut
    have hne' : ∀ p ∈ ps, p.1.vals.length ≠ 0 := Idn.grp_ne' hps.out hne
    obtain ⟨Au, cu, hu⟩ := own_shape hown.1
    subst hu
    have hD := delNone_any _ _ wc hown.names (by rw [List.length_map]; omega) (fun x hx => by
      obtain ⟨p, hp, rfl⟩ := List.mem_map.1 hx
      exact hne' p hp)
    go_wp2_with fail
    refine hD.mono ?_
    rintro e w1 ⟨rfl, hb1⟩
    have hown1 := hown.keep hb1
    have hbw1 := hb.trans (hb1.mono hb.size)
    clear hown hD
    go_upto_block 2 with fail
    go_cut [] (fun wx => ∃ qs, AttOwn wx w.heap.size (.slice Au ps.length cu) qs ∧ Below w.heap.size w wx ∧ Hid (qs.map (·.1) = (ps.map (·.1)).map Idn.normA) ∧ qs.length = ps.length)
    case first =>
      go_wp2_with fail
      go_loopw [8, 47] (fun _ i wr => ∃ (k : Nat) (qs : List (Idn.Att × Value)), k ≤ ps.length ∧ i = .int .i64 k ∧ AttOwn wr w.heap.size (.slice Au ps.length cu) qs ∧ Below w.heap.size w wr ∧ Hid (qs.map (·.1) = ((ps.map (·.1)).take k).map Idn.normA ++ (ps.map (·.1)).drop k) ∧ qs.length = ps.length) (fun _ i _ => ps.length - (intOf i).toNat)
      case atStart => exact ⟨0, ps, Nat.zero_le _, rfl, hown1, hbw1, by show _ = _; simp, rfl⟩
      case round =>
        obtain ⟨k, qs, hk, rfl, hown, hbr, hinv, hql⟩ := hrel
        by_cases hlt : k < ps.length
        · have hltI : (k : Int) < (ps.length : Int) := by omega
          obtain ⟨q, hqk⟩ : ∃ q, qs[k]? = some q := ⟨_, List.getElem?_eq_getElem (by omega)⟩
          obtain ⟨g, cap, hu, _, hgl⟩ := hown.1.form (by omega)
          injection hu with hu1 hu2 hu3
          subst hu1 hu3
          have hqm : q ∈ qs := List.mem_of_getElem? hqk
          have hq1 : q.1 = ps[k].1 := by
            have := congrArg (·[k]?) hinv.out
            simp only [List.getElem?_map, hqk, Option.map_some] at this
            rw [List.getElem?_append_right (by simp; omega)] at this
            simp [hlt, Nat.min_eq_left (Nat.le_of_lt hlt)] at this
            exact this
          have hpm : ps[k] ∈ ps := List.getElem_mem _
          have hvn := hne' _ hpm
          have hvb := hpv _ hpm
          obtain ⟨k0, k1, kf, kb⟩ := hown.cell hqk
          have hou := hown.2.1 _ hqm
          rw [hq1] at hou
          obtain ⟨g1, cap1, hv1, hgb1, hg1⟩ := hou.form (by omega)
          rw [hv1] at hou k1
          have hSo := sort_own g1 cap1 ps[k].1.vals w.heap.size wr hou (by omega) hvb hbr.size
          have hHq : Hid (qs.set k (⟨ps[k].1.name, Lib.compact (sorted ps[k].1.vals)⟩, q.2) = qs.set k (⟨ps[k].1.name, Lib.compact (sorted ps[k].1.vals)⟩, q.2)) := rfl
          have HQK := Lib.hid hqk
          have HQ1 := Lib.hid hq1
          have HV1 := Lib.hid hv1
          have HQL := Lib.hid hql
          clear hHq hqk hq1 hv1 hql k0 hu2
          go_wp2_with fail
          refine hSo.mono ?_
          rintro e w2 ⟨rfl, hou2, hg2⟩
          have hsl : (sorted ps[k].1.vals).length = ps[k].1.vals.length := sorted_len _
          have hou2' : w2.ownsRow w.heap.size 9 1 (.slice (some ⟨g1, 0, none⟩) (sorted ps[k].1.vals).length cap1) (sorted ps[k].1.vals).length ((sorted ps[k].1.vals).map sv) := by rw [hsl]; exact hou2
          have hown2 := hown.turn (vals := sorted ps[k].1.vals) HQK.out (by rw [HV1.out, hsl]; exact hou2) (by rw [HV1.out]; exact hg2)
          have hk2 : (qs.set k (⟨q.1.name, sorted ps[k].1.vals⟩, q.2))[k]? = some (⟨q.1.name, sorted ps[k].1.vals⟩, q.2) := by simp [HQL.out, hlt]
          obtain ⟨_, k12, kf2, _⟩ := hown2.cell hk2
          rw [HV1.out] at k12
          have hb2 : Below w.heap.size w w2 := hbr.grown hg2 hbr.size (fun x hx => by injection hx with hx; omega)
          have hCo := compact_own g1 cap1 (sorted ps[k].1.vals) w.heap.size w2 hou2' (by rw [hsl]; omega) (by rw [hsl]; exact hvb)
          rw [hsl] at hCo
          have hgl2 : g < w2.heap.size := World.block_lt_of_cell? _ _ k12
          clear hSo hown hou2 hou2' hou kf k1 hsl
          go_wp2_with fail
          refine hCo.mono ?_
          rintro e w3 ⟨rfl, hou3, hg3⟩
          clear hCo
          obtain ⟨st1, st2, hown3⟩ := hown2.put (u' := .slice (some ⟨g1, 0, none⟩) (Lib.compact (sorted ps[k].1.vals)).length cap1) hk2 hou3 (by rw [HV1.out]; exact hg3) (.inl (by rw [HV1.out]; rfl))
          dsimp only at st1 hown3
          rw [HV1.out] at st1
          have hb3 : Below w.heap.size w w3 := hb2.grown hg3 hb2.size (fun x hx => by injection hx with hx; omega)
          have hgl3 : g < w3.heap.size := World.block_lt_of_cell? _ _ st1
          have HF : Hid (((qs.set k (⟨q.1.name, sorted ps[k].1.vals⟩, q.2)).set k (⟨q.1.name, Lib.compact (sorted ps[k].1.vals)⟩, .slice (some ⟨g1, 0, none⟩) (Lib.compact (sorted ps[k].1.vals)).length cap1)).map (·.1) = ((ps.map (·.1)).take (k + 1)).map Idn.normA ++ (ps.map (·.1)).drop (k + 1)) := by
            show _ = _
            rw [List.set_set, List.map_set, hinv.out, HQ1.out]
            have hl : k < (ps.map (·.1)).length := by simpa using hlt
            rw [List.set_append_right _ _ (by simp; omega), List.take_succ_eq_append_getElem hl, List.map_append, List.drop_eq_getElem_cons hl]
            simp [Nat.min_eq_left (Nat.le_of_lt hlt)]
            rfl
          clear hown2 hk2 k12 kf2 hou3
          go_wp2_with fail
          go_roundw
          case rel => exact ⟨k + 1, _, by omega, by go_num, hown3, hb3.setCell (p := ⟨g, k * 2 + 1, none⟩) kb _, HF, by rw [List.length_set, List.length_set]; exact HQL.out⟩
          case measure => simp [intOf]; omega
        · have hltI : ¬ (k : Int) < (ps.length : Int) := by omega
          have HF : Hid (qs.map (·.1) = (ps.map (·.1)).map Idn.normA) := by
            show _ = _
            rw [hinv.out, List.take_of_length_le (by simp; omega), List.drop_eq_nil_of_le (by simp; omega), List.append_nil]
          go_wp2_with fail
          go_meet
          exact ⟨qs, hown, hbr, HF, hql⟩
    case rest =>
      obtain ⟨qs, hown, hb, hq, hql⟩ := hcut
      have hnd : ((qs.map (·.1)).map (·.name)).Nodup := by
        rw [hq.out, Idn.norm_names, hps.out]
        exact Idn.grp_nd l [] (by simp)
      have hS := sortA_any _ w.heap.size qs wc hown hb.size (by omega) hnd
      rw [hq.out, hps.out] at hS
      clear hown
      go_wp2_with fail
      refine hS.mono ?_
      rintro e w4 ⟨rfl, qs', hown', hq', hb'⟩
      clear hS
      go_wp2_with fail
      go_ret
      exact ⟨_, qs', rfl, hown', hq', hb.trans hb'⟩
theorem sorted_any (v : Value) (l : List Idn.Att) (w : World) (hv : AttsV w w.heap.size v l) (hs : Idn.ASm7 l) (hne : ∀ a ∈ l, a.vals.length ≠ 0) :
  Calls Tryz.prog 35 #[v] w fun e w' => ∃ v', e = .returned v' ∧ AttsV w' w'.heap.size v' (Idn.aSorted l) ∧ Below w.heap.size w w' :=
 (sortedO_any v l w hv hs hne).mono fun _ _ ⟨v', ps, h1, h2, h3, h4⟩ => ⟨v', h1, h2.atts h3, h4⟩
end Go.Proofs.YtoopoglkeeoamaaGreatDoor
/- attrs: Names, Get. -/
namespace Go.Proofs.YtoopoglkeeoamaaGreatDoor
open Go.RowKit Go.Sort
open Idn (L B Bs drop_L take_L size_L)
def namesL (l : List Idn.Att) : List Bs := (Idn.aSorted l).map (·.name)
def getL (l : List Idn.Att) (n : Bs) : List Bs := match (Idn.aSorted l).findIdx? (fun a => decide (a.name = Idn.lower n)) with
 | none => []
 | some k => match (Idn.aSorted l)[k]? with | none => [] | some a => a.vals
theorem aSorted_len (l : List Idn.Att) : (Idn.aSorted l).length = (Idn.grp [] l).length := by simp [Idn.aSorted]
theorem addA_len (ps : List Idn.Att) (n : Bs) (vs : List Bs) : (Idn.addA ps n vs).length ≤ ps.length + 1 := by
 unfold Idn.addA
 split
 ·simp
 ·split <;> simp
theorem grp_len : ∀ (l acc : List Idn.Att), (Idn.grp acc l).length ≤ acc.length + l.length
  | [], acc => by simp [Idn.grp]
  | a :: l, acc => by
    have h1 := grp_len l (Idn.addA acc (Idn.lower a.name) a.vals)
    have h2 := addA_len acc (Idn.lower a.name) a.vals
    simp only [Idn.grp, List.length_cons]
    omega
theorem names_any (v : Value) (l : List Idn.Att) (w : World) (hv : AttsV w w.heap.size v l) (hs : Idn.ASm7 l) (hne : ∀ a ∈ l, a.vals.length ≠ 0) :
  Calls Tryz.prog 66 #[v] w (RetS w (namesL l)) := by
 have hS := sorted_any v l w hv hs hne
 have hlen := aSorted_len l
 have hgl := grp_len l []
 have hl1 := hs.1
 have hres : Hid (namesL l = (Idn.aSorted l).map (·.name)) := rfl
 generalize namesL l = res at *
 generalize Idn.aSorted l = q at *
 have hq : q.length ≤ 1000 := by simp at hgl; omega
 obtain ⟨A0, c0, rfl, hc0⟩ := SlV.shape hv
 clear hv hs hne hgl hlen
 go_enter Tryz.func66, Tryz.ntmps66
 go_wp2_with fail
 refine hS.mono ?_
 rintro e w1 ⟨v1, rfl, hq1, hb1⟩
 obtain ⟨A, c, rfl, hc⟩ := SlV.shape hq1
 clear hS
 go_wp2
 go_loopw [3, 9] (fun u i wr => ∃ k : Nat, k ≤ q.length ∧ i = .int .i64 k ∧ wr.ownsRow w1.heap.size 9 1 u k (((q.take k).map (·.name)).map sv) ∧ Below w1.heap.size w1 wr) (fun _ i _ => q.length - (intOf i).toNat)
 case atStart => exact ⟨0, Nat.zero_le _, rfl, World.ownsRow_nil _ _ _ _, Below.refl _ _⟩
 case round =>
  obtain ⟨k, hk, rfl, hown, hb⟩ := hrel
  by_cases hlt : k < q.length
  ·obtain ⟨b, off, va, rfl, hbl, c0, c1, hva⟩ := AttsV.cell (AttsV.keep hq1 hb) hlt
   obtain ⟨Av, cv, rfl, hcv⟩ := SlV.shape hva
   have hltI : (k : Int) < (q.length : Int) := by omega
   have ba := (Below.refl wr.heap.size wr).alloc (Nat.le_refl _) (.cells #[.string (B q[k].name), .slice Av q[k].vals.length cv] 48)
   have hown1 := own_below hown ba
   have hbw := hb.trans (ba.mono hb.size)
   have hbs1 := hbw.size
   have hsza : (wr.alloc (.cells #[.string (B q[k].name), .slice Av q[k].vals.length cv] 48)).heap.size = wr.heap.size + 1 := by simp
   have Hsza := Lib.hid hsza
   clear hva hown ba hsza
   go_wp2_with (at_builtin; refine wpList_push (wr.alloc (.cells #[.string (B q[k].name), .slice Av q[k].vals.length cv] 48)) rfl _ _ 45 rfl w1.heap.size 9 (.string ⟨#[]⟩) 1 16 Tryz.underlying45 info_str rfl (by decide) _ k _ hown1 rfl [.string (B q[k].name)] (by rw [Hsza.out]; rfl) rfl (by intro u hu; simp at hu; subst hu; rfl) (by omega) hbs1 ?_ rfl)
   intro v' w1' hown' _ _ hb' _
   clear hown1
   go_wp2
   go_roundw
   case rel =>
    refine ⟨k + 1, by omega, by go_num, ?_, hbw.trans hb'⟩
    rw [List.take_succ_eq_append_getElem hlt, List.map_append, List.map_append]
    simpa [sv] using hown'
   case measure => simp [intOf]; omega
  ·have hkl : k = q.length := by omega
   have hltI : ¬ (k : Int) < (q.length : Int) := by omega
   subst hkl
   rw [List.take_length] at hown
   go_wp2
   go_ret
   refine ⟨_, rfl, ?_, hb1.trans (hb.mono hb1.size)⟩
   rw [hres.out, List.length_map]
   exact own_base hown hb1.size
theorem get_len {l : List Idn.Att} {k m : Nat} (h : ∀ a ∈ l, a.vals.length ≤ k) (hm : l.length * k ≤ m) (n : Bs) : (getL l n).length ≤ m := by
 unfold getL
 split
 ·simp
 ·split
  ·simp
  ·rename_i a ha
   obtain ⟨b, hb, rfl⟩ := Idn.aSorted_from (List.mem_of_getElem? ha)
   have h1 := Lib.compact_length_le (Idn.srt b.vals)
   have h2 : (Idn.srt b.vals).length = b.vals.length := by simp [Idn.srt]
   have h3 := Idn.grp_le k l [] 0 (by simp) h b hb
   show (Lib.compact (Idn.srt b.vals)).length ≤ m
   omega
theorem get_all {p : Bs → Prop} {l : List Idn.Att} (h : ∀ a ∈ l, ∀ x ∈ a.vals, p x) (n : Bs) : ∀ x ∈ getL l n, p x := by
 unfold getL
 split
 ·simp
 ·split
  ·simp
  ·rename_i a ha
   obtain ⟨b, hb, rfl⟩ := Idn.aSorted_from (List.mem_of_getElem? ha)
   intro x hx
   exact Idn.grp_all l [] (by simp) h b hb x (Idn.srt_mem (compact_mem hx))
theorem get_any (v : Value) (l : List Idn.Att) (n : ByteArray) (w : World) (hv : AttsV w w.heap.size v l) (hs : Idn.ASm7 l) (hne : ∀ a ∈ l, a.vals.length ≠ 0) (hn : n.size ≤ 1000000000) :
    Calls Tryz.prog 70 #[v, .string n] w fun e w' => ∃ A k c, e = .returned (.slice A k c) ∧ StrsV w' w'.heap.size (.slice A k c) (getL l (L n)) ∧ (∀ b off, A = some ⟨b, off, none⟩ → w.heap.size ≤ b) ∧ Below w.heap.size w w' := by
  have hS := sortedO_any v l w hv hs hne
  have hlen := aSorted_len l
  have hgl := grp_len l []
  have hl1 := hs.1
  have hbd := get_len (fun a ha => (hs.2 a ha).2.1) (Nat.le_refl _) (L n)
  have hres : Hid (getL l (L n) = match (Idn.aSorted l).findIdx? (fun a => decide (a.name = Idn.lower (L n))) with
    | none => []
    | some k => match (Idn.aSorted l)[k]? with | none => [] | some a => a.vals) := rfl
  generalize getL l (L n) = res at *
  generalize Idn.aSorted l = q at *
  have hq : q.length ≤ 1000 := by simp at hgl; omega
  obtain ⟨A0, c0, rfl, hc0⟩ := SlV.shape hv
  clear hv hs hne hgl hlen
  go_enter Tryz.func70, Tryz.ntmps70
  go_wp2_with fail
  refine hS.mono ?_
  rintro e w1 ⟨v1, ps, rfl, hown, hpq, hb1⟩
  have hpl : ps.length = q.length := by rw [← hpq, List.length_map]
  have hF := find_any v1 q n w1 (hown.atts hpq) (by omega) hn
  obtain ⟨A, c, hv1⟩ := own_shape hown.1
  subst hv1
  clear hS
  have HPL := Lib.hid hpl
  have HPQ := Lib.hid hpq
  have hpl9 : ps.length ≤ 1000 := by omega
  clear hpq hpl
  cases hx : q.findIdx? (fun a => decide (a.name = Idn.lower (L n))) with
  | none =>
    have HF : Hid (res = []) := by show _ = _; rw [hres.out, hx]
    rw [idxP_none hx] at hF
    clear hx
    go_wp2_with fail
    refine hF.mono ?_
    rintro e w2 ⟨rfl, hb2⟩
    go_wp2
    go_ret
    exact ⟨none, 0, 0, rfl, by rw [HF.out]; exact SlV.nil _ _ _ _, by simp, hb1.trans (hb2.mono hb1.size)⟩
  | some k =>
    have hkl : k < q.length := (List.findIdx?_eq_some_iff_getElem.1 hx).1
    have HF : Hid (res = q[k].vals) := by show _ = _; rw [hres.out, hx]; simp [hkl]
    rw [idxP_some hx] at hF
    have hkp : k < ps.length := by rw [HPL.out]; exact hkl
    have hkI : (k : Int) < (ps.length : Int) := by omega
    have hk0 : ¬ ((k : Int) < 0) := by omega
    clear hx
    obtain ⟨g, cap, hu, _, hgl⟩ := hown.1.form (by omega)
    injection hu with hu1 hu2 hu3
    subst hu1 hu3
    have hpk : ps[k]? = some ps[k] := List.getElem?_eq_getElem (by omega)
    have hp1 : ps[k].1 = q[k] := by
      have := HPQ.out
      subst this
      simp
    have HP1 := Lib.hid hp1
    have hpm : ps[k] ∈ ps := List.getElem_mem _
    clear hp1
    generalize ps[k] = p at *
    have HPK := Lib.hid hpk
    clear hpk
    obtain ⟨Av, cv, hup⟩ := own_shape (hown.2.1 p hpm)
    go_wp2_with fail
    refine hF.mono ?_
    rintro e w2 ⟨rfl, hb2⟩
    have hown2 := hown.keep hb2
    obtain ⟨c0, c1, _, _⟩ := hown2.cell HPK.out
    have ho := hown2.2.1 p hpm
    rw [hup] at c1 ho
    have hge : ∀ b off, Av = some ⟨b, off, none⟩ → w.heap.size ≤ b := fun b off e => by
      subst e
      obtain ⟨g', e1, e2, _⟩ : ∃ g', (⟨b, off, none⟩ : Addr) = ⟨g', 0, none⟩ ∧ w.heap.size ≤ g' ∧ True := by
        rcases ho.2 with ⟨hn, _⟩ | ⟨g', cap', cur, hv, hb', _⟩
        · cases hn
        · injection hv with hv1
          injection hv1 with hv1
          exact ⟨g', hv1, hb', trivial⟩
      injection e1 with e1
      omega
    obtain ⟨Aw, cw, ew, hcw, hrd⟩ := StrsV.of_own ho
    injection ew with ew1 ew2 ew3
    subst ew1
    have hvc : (p.1.vals.length : Int) ≤ (cv : Int) := by omega
    have hv0 : (0 : Int) ≤ (p.1.vals.length : Int) := by omega
    clear hF hown hown2 ho hup hpm
    go_wp2
    go_ret
    exact ⟨Av, p.1.vals.length, p.1.vals.length, rfl, by rw [HF.out, ← HP1.out]; exact ⟨Av, _, rfl, Nat.le_refl _, hrd⟩, hge, hb1.trans (hb2.mono hb1.size)⟩
end Go.Proofs.YtoopoglkeeoamaaGreatDoor
/- Rows of attributes that a call has laid: with values of the call's own, or with values laid before. -/
namespace Go.Proofs.YtoopoglkeeoamaaGreatDoor
open Go.RowKit Go.Sort
open Idn (L B Bs drop_L take_L size_L)
def AttRow (w : World) (base : Nat) (v : Value) (ps : List (Idn.Att × Value)) : Prop :=
 w.ownsRow base 48 2 v ps.length (rowA ps) ∧ ∀ p ∈ ps, w.ownsRow base 9 1 p.2 p.1.vals.length (p.1.vals.map sv)
theorem rowA_snoc (ps : List (Idn.Att × Value)) (p : Idn.Att × Value) : rowA (ps ++ [p]) = rowA ps ++ [sv p.1.name, p.2] := by unfold rowA; rw [List.flatMap_append]; rfl
theorem AttRow.nil (w : World) (base : Nat) : AttRow w base (.slice none 0 0) [] := ⟨World.ownsRow_nil _ _ _ _, by simp⟩
theorem AttRow.keep {w w' : World} {base : Nat} {v : Value} {ps : List (Idn.Att × Value)} (h : AttRow w base v ps) (hb : Below w.heap.size w w') : AttRow w' base v ps :=
 ⟨own_below h.1 hb, fun p hp => own_below (h.2 p hp) hb⟩
theorem AttRow.push {w w' : World} {base : Nat} {v v' a : Value} {ps : List (Idn.Att × Value)} {x : Idn.Att} (h : AttRow w base v ps) (ha : w.ownsRow base 9 1 a x.vals.length (x.vals.map sv))
  (hown : w'.ownsRow base 48 2 v' (ps.length + 1) (rowA ps ++ [sv x.name, a])) (hg : w.grownBy w' v.ownBlock) : AttRow w' base v' (ps ++ [(x, a)]) := by
 refine ⟨by rw [List.length_append, rowA_snoc]; exact hown, fun p hp => ?_⟩
 rcases List.mem_append.1 hp with hp | hp
 ·exact own_kept (h.2 p hp) hg fun g h1 h2 => own_apart h.1 (h.2 p hp) (by decide) g h2 h1
 ·simp at hp; subst hp
  exact own_kept ha hg fun g h1 h2 => own_apart h.1 ha (by decide) g h2 h1
theorem AttRow.low {w : World} {base b : Nat} {v : Value} {ps : List (Idn.Att × Value)} (h : AttRow w base v ps) (hb : b ≤ base) : AttRow w b v ps :=
 ⟨own_base h.1 hb, fun p hp => own_base (h.2 p hp) hb⟩
theorem row_atts {w : World} {base : Nat} {v : Value} {ps : List (Idn.Att × Value)} {l : List Idn.Att} (h0 : w.ownsRow base 48 2 v ps.length (rowA ps)) (h2 : ∀ p ∈ ps, StrsV w w.heap.size p.2 p.1.vals) (hl : ps.map (·.1) = l) : AttsV w w.heap.size v l := by
 subst hl
 rw [show ps.length = (ps.map (·.1)).length by simp] at h0
 refine SlV.own h0 fun i x hx => ?_
 rw [List.getElem?_map] at hx
 obtain ⟨p, hp, rfl⟩ := Option.map_eq_some_iff.1 hx
 obtain ⟨e1, e2⟩ := rowA_at ps i p hp
 refine ⟨[sv p.1.name, p.2], rfl, ⟨p.2, rfl, h2 p (List.mem_of_getElem? hp)⟩, fun j u hj => ?_⟩
 match j, hj with
 | 0, hj => simp at hj; subst hj; exact e1
 | 1, hj => simp at hj; subst hj; exact e2
theorem AttRow.atts {w : World} {base : Nat} {v : Value} {ps : List (Idn.Att × Value)} {l : List Idn.Att} (h : AttRow w base v ps) (hl : ps.map (·.1) = l) : AttsV w w.heap.size v l :=
 row_atts h.1 (fun p hp => StrsV.of_own (h.2 p hp)) hl
end Go.Proofs.YtoopoglkeeoamaaGreatDoor
/- identityref06: Sorted. -/
namespace Go.Proofs.YtoopoglkeeoamaaGreatDoor
open Go.RowKit Go.Sort
open Idn (L B Bs drop_L take_L size_L)
def PairAt (X : World) (p : Nat) (a b : Value) : Prop :=
 (X.cell? ⟨p, 0, none⟩ = some a ∧ X.cell? ⟨p, 1, none⟩ = some b) ∧ (X.frozen? ⟨p, 0, none⟩ = false ∧ X.frozen? ⟨p, 1, none⟩ = false) ∧ p < X.heap.size
theorem PairAt.keep {X Y : World} {p : Nat} {a b : Value} (h : PairAt X p a b) {lo : Nat} (hb : Below lo X Y) (hp : p < lo) : PairAt Y p a b := by
 obtain ⟨⟨h0, h1⟩, ⟨g0, g1⟩, hl⟩ := h
 exact ⟨⟨(hb.cell (p := ⟨p, 0, none⟩) hp).trans h0, (hb.cell (p := ⟨p, 1, none⟩) hp).trans h1⟩, ⟨(hb.frozen (p := ⟨p, 0, none⟩) hp).trans g0, (hb.frozen (p := ⟨p, 1, none⟩) hp).trans g1⟩, Nat.lt_of_lt_of_le hl hb.size⟩
theorem PairAt.put {X : World} {p : Nat} {a b : Value} (h : PairAt X p a b) (c : Value) : PairAt (X.setCell ⟨p, 1, none⟩ c) p a c := by
 obtain ⟨⟨h0, h1⟩, ⟨g0, g1⟩, hl⟩ := h
 exact ⟨⟨by simp [go_sem, h0, h1], by simp [go_sem, h0, h1]⟩, ⟨by simp [g0], by simp [g1]⟩, by simpa using hl⟩
theorem insAll_snoc (xs : List Bs) (n : Bs) : Idn.insAll (xs ++ [n]) = Idn.insS n (Idn.insAll xs) := by unfold Idn.insAll; rw [List.foldl_append]; rfl
theorem insAll_app (xs ys : List Bs) (n : Bs) : Idn.insAll (xs ++ (ys ++ [n])) = Idn.insS n (Idn.insAll (xs ++ ys)) := by rw [← List.append_assoc, insAll_snoc]
theorem foldl_ins_len : ∀ (l acc : List Bs), (l.foldl (fun a n => Idn.insS n a) acc).length ≤ acc.length + l.length
  | [], acc => by simp
  | n :: l, acc => by
    have h1 := foldl_ins_len l (Idn.insS n acc)
    have h2 := insS_len n acc
    simp only [List.foldl_cons, List.length_cons]
    omega
theorem insAll_len (l : List Bs) : (Idn.insAll l).length ≤ l.length := by
 have := foldl_ins_len l []
 simpa [Idn.insAll] using this
theorem lows_take (l : List Idn.Att) (k : Nat) (hk : k < l.length) : Idn.lows (l.take (k + 1)) = Idn.lows (l.take k) ++ (if 0 < l[k].vals.length then [Idn.lower l[k].name] else []) := by
 rw [List.take_succ_eq_append_getElem hk]
 unfold Idn.lows
 rw [List.filter_append, List.map_append]
 by_cases h : 0 < l[k].vals.length
 ·rw [if_pos h, List.filter_cons_of_pos (by simpa using h)]; rfl
 ·rw [if_neg h, List.filter_cons_of_neg (by simpa using h)]; rfl
theorem vals_take (l : List Idn.Att) (n : Bs) (k : Nat) (hk : k < l.length) : Idn.valsOf (l.take (k + 1)) n = Idn.valsOf (l.take k) n ++ (if Idn.lower l[k].name = n then l[k].vals else []) := by
 rw [List.take_succ_eq_append_getElem hk]
 unfold Idn.valsOf
 rw [List.filter_append, List.flatMap_append]
 by_cases h : Idn.lower l[k].name = n
 ·rw [if_pos h, List.filter_cons_of_pos (by simpa using h)]; simp
 ·rw [if_neg h, List.filter_cons_of_neg (by simpa using h)]; rfl
theorem lows_len (l : List Idn.Att) : (Idn.lows l).length ≤ l.length := by
 unfold Idn.lows
 rw [List.length_map]
 exact List.length_filter_le _ _
theorem vals_len {l : List Idn.Att} {c : Nat} (h : ∀ a ∈ l, a.vals.length ≤ c) (n : Bs) : (Idn.valsOf l n).length ≤ l.length * c := by
 unfold Idn.valsOf
 refine Nat.le_trans (flat_len (·.vals) c _ fun a ha => h a (List.mem_filter.1 ha).1) ?_
 exact Nat.mul_le_mul_right _ (List.length_filter_le _ _)
theorem insAll_pw (l : List Bs) : (Idn.insAll l).Pairwise (· < ·) := Idn.insAll_lt l
theorem r_Sorted_any (v : Value) (l : List Idn.Att) (w : World) (hv : AttsV w w.heap.size v l) (hs : Idn.ASm7 l) :
  Calls Tryz.prog 57 #[v] w fun e w' => ∃ v' ps, e = .returned v' ∧ AttRow w' w.heap.size v' ps ∧ ps.map (·.1) = Idn.rSorted l ∧ Below w.heap.size w w' := by
 obtain ⟨A, c, rfl, hc⟩ := SlV.shape hv
 have hl1 := hs.1
 have hnl : (Idn.insAll (Idn.lows l)).length ≤ 1000 := Nat.le_trans (insAll_len _) (Nat.le_trans (lows_len l) (Nat.le_trans hl1 (by decide)))
 go_enter Tryz.func57, Tryz.ntmps57
 go_wp2
 go_loopw [3, 4] (fun u i wr => ∃ (k : Nat) (acc : List Bs), k ≤ l.length ∧ i = .int .i64 k ∧ wr.ownsRow w.heap.size 9 1 u acc.length (acc.map sv) ∧ Below w.heap.size w wr ∧ Hid (acc = Idn.insAll (Idn.lows (l.take k)))) (fun _ i _ => l.length - (intOf i).toNat)
 case atStart => exact ⟨0, [], Nat.zero_le _, rfl, World.ownsRow_nil _ _ _ _, Below.refl _ _, rfl⟩
 case round =>
  obtain ⟨k, acc, hk, rfl, hown, hb, hacc⟩ := hrel
  by_cases hlt : k < l.length
  ·have hltI : (k : Int) < (l.length : Int) := by omega
   obtain ⟨b, off, va, rfl, hbl, c0, c1, hva⟩ := AttsV.cell (AttsV.keep hv hb) hlt
   obtain ⟨Av, cv, rfl, hcv⟩ := SlV.shape hva
   have hlk := lows_take l k hlt
   obtain ⟨hn9, hv9, _⟩ := hs.2 l[k] (List.getElem_mem hlt)
   by_cases hz : 0 < l[k].vals.length
   ·have hzI : (0 : Int) < (l[k].vals.length : Int) := by omega
    rw [if_pos hz] at hlk
    have hL := r_lower_any (B l[k].name) wr (by rw [Idn.size_B]; omega)
    rw [Idn.L_B] at hL
    have HA : Hid (Idn.insS (Idn.lower l[k].name) acc = Idn.insAll (Idn.lows (l.take (k + 1)))) := by show _ = _; rw [hlk, insAll_snoc, hacc.out]
    have hpw : acc.Pairwise (· < ·) := by rw [hacc.out]; exact insAll_pw _
    have hal : acc.length ≤ 1000 := by
     rw [hacc.out]
     refine Nat.le_trans (insAll_len _) (Nat.le_trans (lows_len _) ?_)
     rw [List.length_take]; omega
    have hI := fun W (hW : Below wr.heap.size wr W) => r_Insert_any _ acc (B (Idn.lower l[k].name)) W (SlV.mono (SlV.keep (StrsV.of_own hown) hW) hW.size) hpw (by omega)
    rw [Idn.L_B] at hI
    generalize Idn.lower l[k].name = nm at *
    clear hlk hacc hpw
    obtain ⟨Au, cu, hu⟩ := own_shape hown
    subst hu
    go_wp2_with fail
    refine hL.mono ?_
    rintro e w1 ⟨rfl, hb1⟩
    have hI1 := hI w1 hb1
    clear hL hI c0 c1 hown
    go_wp2_with fail
    refine hI1.mono ?_
    rintro e w2 ⟨v2, rfl, ho2, hb2⟩
    clear hI1
    have hb12 := hb1.trans (hb2.mono hb1.size)
    have hbw2 := hb.trans (hb12.mono hb.size)
    have ho2' := own_base ho2 (Nat.le_trans hb.size hb1.size)
    clear ho2
    go_wp2
    go_roundw
    case rel => exact ⟨k + 1, _, by omega, by go_num, ho2', hbw2, HA⟩
    case measure => simp [intOf]; omega
   ·have hzI : ¬ (0 : Int) < (l[k].vals.length : Int) := by omega
    rw [if_neg hz, List.append_nil] at hlk
    have HA : Hid (acc = Idn.insAll (Idn.lows (l.take (k + 1)))) := by show _ = _; rw [hlk, hacc.out]
    clear hlk hacc hz
    go_wp2
    go_roundw
    case rel => exact ⟨k + 1, acc, by omega, by go_num, hown, hb, HA⟩
    case measure => simp [intOf]; omega
  ·have hltI : ¬ (k : Int) < (l.length : Int) := by omega
   have e1 : l.take k = l := List.take_of_length_le (by omega)
   have HN : Hid (acc = Idn.insAll (Idn.lows l)) := by show _ = _; rw [hacc.out, e1]
   have hal : acc.length ≤ 1000 := by rw [HN.out]; exact hnl
   obtain ⟨wn, hwn⟩ : ∃ wn : World, wn = wr := ⟨_, rfl⟩
   subst hwn
   obtain ⟨Au, cu, hu⟩ := own_shape hown
   subst hu
   have hvn := AttsV.keep hv hb
   have hS := StrsV.of_own hown
   clear hacc e1 hnl hlt hk hown
   go_wp2
   clear hltI
   go_loopw [5, 6] (fun u i wr => ∃ (k : Nat) (ps : List (Idn.Att × Value)), k ≤ acc.length ∧ i = .int .i64 k ∧ AttRow wr wn.heap.size u ps ∧ Below wn.heap.size wn wr ∧ ps.length = k ∧ Hid (ps.map (·.1) = (acc.take k).map (Idn.rOne l))) (fun _ i _ => acc.length - (intOf i).toNat)
   case atStart => exact ⟨0, [], Nat.zero_le _, rfl, AttRow.nil _ _, Below.refl _ _, rfl, rfl⟩
   case round =>
    obtain ⟨k, ps, hk, rfl, hrow, hbn, hpl, hps⟩ := hrel
    by_cases hlt : k < acc.length
    ·have hltI : (k : Int) < (acc.length : Int) := by omega
     obtain ⟨g, o, rfl, hgl, d0⟩ := StrsV.cell (SlV.keep hS hbn) hlt
     obtain ⟨w0, hw0⟩ : ∃ w0 : World, w0 = wr := ⟨_, rfl⟩
     subst hw0
     have htk := List.take_succ_eq_append_getElem hlt
     have HTK := Lib.hid htk
     have HPL := Lib.hid hpl
     clear htk hpl
     obtain ⟨Ar, cr, hu⟩ := own_shape hrow.1
     subst hu
     generalize hnm : acc[k] = nm at *
     have HNM := Lib.hid hnm
     clear hnm
     go_upto_block 4 with fail
     with_reducible refine gen1 (R := fun W => Code.wp Tryz.prog _ _ _ W) ?_
     intro W1 hbW1 hszW1 hc1 hf1
     have hP1 : PairAt W1 w0.heap.size (.string (B nm)) (.slice none 0 0) := ⟨⟨hc1 0 _ rfl, hc1 1 _ rfl⟩, ⟨hf1 0, hf1 1⟩, by omega⟩
     clear hc1 hf1
     go_wp2_with fail
     go_loopw [8] (fun i wx => ∃ (j : Nat) (vs : List Bs) (u : Value), j ≤ l.length ∧ i = .int .i64 j ∧ Below w0.heap.size w0 wx ∧ PairAt wx w0.heap.size (.string (B nm)) u ∧ wx.ownsRow (w0.heap.size + 1) 9 1 u vs.length (vs.map sv) ∧ Hid (vs = Idn.insAll (Idn.valsOf (l.take j) nm))) (fun i _ => l.length - (intOf i).toNat)
     case atStart => exact ⟨0, [], _, Nat.zero_le _, rfl, hbW1, hP1, World.ownsRow_nil _ _ _ _, rfl⟩
     case round =>
      obtain ⟨j, vs, u, hj, rfl, hbx, hP, hvs, hacc⟩ := hrel
      clear hP1 hbW1 hszW1
      by_cases hjl : j < l.length
      ·have hjI : (j : Int) < (l.length : Int) := by omega
       have hvt := vals_take l nm j hjl
       have HVT := Lib.hid hvt
       clear hvt
       obtain ⟨hn9, hv9, _⟩ := hs.2 l[j] (List.getElem_mem hjl)
       obtain ⟨wj, hwj⟩ : ∃ wj : World, wj = wr := ⟨_, rfl⟩
       subst hwj
       go_wp2
       go_loopw [9] (fun i wx => ∃ (m : Nat) (vs : List Bs) (u : Value), m ≤ l[j].vals.length ∧ i = .int .i64 m ∧ Below w0.heap.size w0 wx ∧ PairAt wx w0.heap.size (.string (B nm)) u ∧ wx.ownsRow (w0.heap.size + 1) 9 1 u vs.length (vs.map sv) ∧ Hid (vs = Idn.insAll (Idn.valsOf (l.take j) nm ++ l[j].vals.take m)) ∧ (Idn.lower l[j].name = nm ∨ m = 0)) (fun i _ => l[j].vals.length - (intOf i).toNat)
       case atStart => exact ⟨0, vs, u, Nat.zero_le _, rfl, hbx, hP, hvs, by show _ = _; rw [hacc.out]; simp, .inr rfl⟩
       case round =>
        obtain ⟨m, vs, u, hm, rfl, hbx, hP, hvs, hacc, hor⟩ := hrel
        have hbnx := hbn.trans (hbx.mono hbn.size)
        obtain ⟨b, off, va, rfl, hbl, c0, c1, hva⟩ := AttsV.cell (AttsV.keep hvn (hbnx.mono hb.size)) hjl
        obtain ⟨Av, cv, rfl, hcv⟩ := SlV.shape hva
        have e0 := (hbx.cell (p := ⟨g, o + k, none⟩) (Nat.lt_of_lt_of_le hgl hbn.size)).trans d0
        have hL := fun W => r_lower_any (B l[j].name) W (by rw [Idn.size_B]; omega)
        rw [Idn.L_B] at hL
        have k0 := cell_regrown c0
        have k1 := cell_regrown c1
        have k2 := cell_regrown e0
        have q1 := cq (W := wr) fun W' _ => hL W'
        have hsame : (((B (Idn.lower l[j].name)).toList == (B nm).toList)) = decide (Idn.lower l[j].name = nm) := by rw [str_beq, Idn.L_B, Idn.L_B]
        by_cases he : Idn.lower l[j].name = nm
        ·rw [decide_eq_true he] at hsame
         by_cases hml : m < l[j].vals.length
         ·have hmI : (m : Int) < (l[j].vals.length : Int) := by omega
          have HS : Hid (Idn.insS l[j].vals[m] vs = Idn.insAll (Idn.valsOf (l.take j) nm ++ l[j].vals.take (m + 1))) := by
           show _ = _
           rw [hacc.out, List.take_succ_eq_append_getElem hml, insAll_app]
          have hpw : vs.Pairwise (· < ·) := by rw [hacc.out]; exact insAll_pw _
          have hvl : vs.length ≤ 2000000000 := by
           rw [hacc.out]
           refine Nat.le_trans (insAll_len _) ?_
           have h1 := vals_len (l := l.take j) (c := 1100000) (fun a ha => (hs.2 a (List.mem_of_mem_take ha)).2.1) nm
           rw [List.length_append, List.length_take]
           rw [List.length_take] at h1
           have h2 : min j l.length * 1100000 ≤ 900 * 1100000 := Nat.mul_le_mul_right _ (by omega)
           omega
          clear hacc hor
          generalize Idn.lower l[j].name = ln at *
          have HE := Lib.hid he
          clear he hL
          go_wp2
          refine wp_region_quiet_below (by kernel_rfl) (by kernel_rfl) ?_
          repeat (first | go_big_quiet_step ((go_at_call 55; exact q1 _ _)) | quiet_step ((go_at_call 55; exact q1 _ _)))
          refine wpQuiet_nil ?_
          intro _ hw'
          obtain ⟨⟨dq, osq⟩, hw''⟩ := hw'
          subst hw''
          have hb4 := below_regrown wr dq osq
          generalize grow (redrawn wr dq) osq = W4 at hb4 ⊢
          clear q1 k0 k1 k2
          have hpx : w0.heap.size < wr.heap.size := hP.2.2
          have hP4 := PairAt.keep hP hb4 hpx
          have hvs4 := own_below hvs hb4
          have f1 := cell_later hb4 c1
          have hb04 := hbx.trans (hb4.mono hbx.size)
          obtain ⟨gv, ov, rfl, hgv, m0⟩ := StrsV.cell (SlV.keep (SlV.mono hva (Nat.le_trans hb.size (Nat.le_trans hbn.size hbx.size))) hb4) hml
          clear c0 c1 e0 hP hvs
          have hIn := r_Insert_any u vs (B l[j].vals[m]) W4.drew (StrsV.of_own (w := W4.drew) hvs4) hpw (by omega)
          rw [Idn.L_B] at hIn
          have z1 : W4.drew.cell? ⟨w0.heap.size, 1, none⟩ = some u := hP4.1.2
          have z2 : W4.drew.cell? ⟨b, off + j * 2 + 1, none⟩ = some (.slice (some ⟨gv, ov, none⟩) l[j].vals.length cv) := f1
          have z3 : W4.drew.cell? ⟨gv, ov + m, none⟩ = some (.string (B l[j].vals[m])) := m0
          have z4 : W4.drew.frozen? ⟨w0.heap.size, 1, none⟩ = false := hP4.2.1.2
          have hP4d : PairAt W4.drew w0.heap.size (.string (B nm)) u := hP4
          have hb04d : Below w0.heap.size w0 W4.drew := hb04.drew
          have hpx4 : w0.heap.size < W4.drew.heap.size := hP4d.2.2
          obtain ⟨Ab, cb, hu⟩ := own_shape hvs4
          subst hu
          clear m0 f1 hP4 hvs4
          go_wp2_with fail
          go_region_law (
           go_simp
           go_at_call 104
           refine hIn.mono ?_
           rintro e w6 ⟨v6, rfl, ho6, hb6⟩
           have hP6 := PairAt.keep hP4d hb6 hpx4
           obtain ⟨⟨r0, r1⟩, ⟨s0, s1⟩, hl6⟩ := hP6
           obtain ⟨A6, c6, hv6⟩ := own_shape ho6
           subst hv6
           go_wp2_with fail)
          all_goals
           have hP6 : PairAt (w6.setCell ⟨w0.heap.size, 1, none⟩ (.slice A6 (Idn.insS l[j].vals[m] vs).length c6)) w0.heap.size (.string (B nm)) (.slice A6 (Idn.insS l[j].vals[m] vs).length c6) := PairAt.put (PairAt.keep hP4d hb6 hpx4) _
           have hne9 : (Value.slice A6 (Idn.insS l[j].vals[m] vs).length c6).ownBlock ≠ some w0.heap.size := fun e => absurd (ho6.lt _ e).1 (Nat.not_le.2 hpx4)
           have ho7 : (w6.setCell ⟨w0.heap.size, 1, none⟩ (.slice A6 (Idn.insS l[j].vals[m] vs).length c6)).ownsRow (w0.heap.size + 1) 9 1 (.slice A6 (Idn.insS l[j].vals[m] vs).length c6) (Idn.insS l[j].vals[m] vs).length ((Idn.insS l[j].vals[m] vs).map sv) :=
            own_base (ownsRow_setCell_other ho6 hne9 _) hpx4
           have hb7 : Below w0.heap.size w0 (w6.setCell ⟨w0.heap.size, 1, none⟩ (.slice A6 (Idn.insS l[j].vals[m] vs).length c6)) := (hb04d.trans (hb6.mono hb04d.size)).setCell (Nat.le_refl _) _
           go_wp2_with fail
           go_roundw
           case rel => exact ⟨m + 1, _, _, by omega, by go_num, hb7, hP6, ho7, HS, .inl HE.out⟩
           case measure => simp [intOf]; omega
         ·have hmI : ¬ (m : Int) < (l[j].vals.length : Int) := by omega
          have HS : Hid (vs = Idn.insAll (Idn.valsOf (l.take (j + 1)) nm)) := by
           show _ = _
           rw [hacc.out, HVT.out, if_pos he, (List.take_of_length_le (by omega) : l[j].vals.take m = l[j].vals)]
          clear hacc hor
          generalize Idn.lower l[j].name = ln at *
          clear he hL
          go_wp2
          refine wp_region_quiet_below (by kernel_rfl) (by kernel_rfl) ?_
          repeat (first | go_big_quiet_step ((go_at_call 55; exact q1 _ _)) | quiet_step ((go_at_call 55; exact q1 _ _)))
          refine wpQuiet_nil ?_
          intro _ hw'
          obtain ⟨⟨dq, osq⟩, hw''⟩ := hw'
          subst hw''
          have hb4 := below_regrown wr dq osq
          generalize grow (redrawn wr dq) osq = W4 at hb4 ⊢
          clear q1 k0 k1 k2
          have hP4 := PairAt.keep hP hb4 hP.2.2
          have hvs4 := own_below hvs hb4
          have hb04 := hbx.trans (hb4.mono hbx.size)
          clear c0 c1 e0 hP hvs
          go_wp2_with fail
          go_roundw
          case rel => exact ⟨j + 1, vs, u, by omega, by go_num, hb04, hP4, hvs4, HS⟩
          case measure => simp [intOf]; omega
        ·rw [decide_eq_false he] at hsame
         obtain rfl : m = 0 := hor.resolve_left he
         have HS : Hid (vs = Idn.insAll (Idn.valsOf (l.take (j + 1)) nm)) := by
          show _ = _
          rw [hacc.out, HVT.out, if_neg he]; rfl
         clear hacc hor
         generalize Idn.lower l[j].name = ln at *
         clear he hL
         go_wp2
         refine wp_region_quiet_below (by kernel_rfl) (by kernel_rfl) ?_
         repeat (first | go_big_quiet_step ((go_at_call 55; exact q1 _ _)) | quiet_step ((go_at_call 55; exact q1 _ _)))
         refine wpQuiet_nil ?_
         intro _ hw'
         obtain ⟨⟨dq, osq⟩, hw''⟩ := hw'
         subst hw''
         have hb4 := below_regrown wr dq osq
         generalize grow (redrawn wr dq) osq = W4 at hb4 ⊢
         clear q1 k0 k1 k2
         have hP4 := PairAt.keep hP hb4 hP.2.2
         have hvs4 := own_below hvs hb4
         have hb04 := hbx.trans (hb4.mono hbx.size)
         clear c0 c1 e0 hP hvs
         go_wp2_with fail
         go_roundw
         case rel => exact ⟨j + 1, vs, u, by omega, by go_num, hb04, hP4, hvs4, HS⟩
         case measure => simp [intOf]; omega
      ·have hjI : ¬ (j : Int) < (l.length : Int) := by omega
       have e1 : l.take j = l := List.take_of_length_le (by omega)
       have HV : Hid (vs = Idn.insAll (Idn.valsOf l nm)) := by show _ = _; rw [hacc.out, e1]
       have hrow2 := hrow.keep hbx
       obtain ⟨⟨p0, p1⟩, _, hpx⟩ := hP
       have hbase : wn.heap.size ≤ w0.heap.size := hbn.size
       have hbx2 := hbx.size
       obtain ⟨Ab, cb, hu⟩ := own_shape hvs
       subst hu
       have hwx : wn.heap.size ≤ wr.heap.size := by omega
       have hrl : (ps.length + 1) * 41 ≤ 140737488355328 := by have := HPL.out; omega
       clear hacc e1 hjl hj hrow
       go_wp2_with (at_builtin; refine wpList_push wr rfl _ _ 22 rfl wn.heap.size 48 (.agg #[.string ⟨#[]⟩, .slice none 0 0]) 2 40 Tryz.underlying22 info_attr rfl (by decide) _ ps.length _ hrow2.1 rfl [.string (B nm), .slice Ab vs.length cb] rfl rfl (by intro u hu; simp at hu; rcases hu with rfl | rfl <;> rfl) hrl hwx ?_ rfl)
       intro v' w1' hown' hg' _ hb' _
       have hrow3 : AttRow w1' wn.heap.size v' (ps ++ [(⟨nm, vs⟩, .slice Ab vs.length cb)]) := AttRow.push hrow2 (own_base hvs (by omega)) (by simpa [sv] using hown') hg'
       have hbw1 : Below wn.heap.size wn w1' := (hbn.trans (hbx.mono hbn.size)).trans hb'
       go_wp2
       go_roundw
       case rel => exact ⟨k + 1, _, by omega, by go_num, hrow3, hbw1, by simp; exact HPL.out, by
        show _ = _
        rw [HTK.out, List.map_append, List.map_append, hps.out]
        simp only [List.map_cons, List.map_nil]
        rw [HV.out]; rfl⟩
       case measure => simp [intOf]; omega
    ·have hltI : ¬ (k : Int) < (acc.length : Int) := by omega
     have e1 : acc.take k = acc := List.take_of_length_le (by omega)
     have HF : Hid (ps.map (·.1) = Idn.rSorted l) := by show _ = _; rw [hps.out, e1, HN.out]; rfl
     clear hps e1
     go_wp2
     go_ret
     exact ⟨_, rfl, ps, hrow.low hb.size, HF.out, hb.trans (hbn.mono hb.size)⟩
end Go.Proofs.YtoopoglkeeoamaaGreatDoor
/- identityref06: Names, Get. -/
namespace Go.Proofs.YtoopoglkeeoamaaGreatDoor
open Go.RowKit Go.Sort
open Idn (L B Bs drop_L take_L size_L)
def rGet (l : List Idn.Att) (n : Bs) : List Bs := match (Idn.rSorted l).findIdx? (fun a => decide (a.name = Idn.lower n)) with
 | none => []
 | some k => match (Idn.rSorted l)[k]? with | none => [] | some a => a.vals
theorem rGet_eq {l : List Idn.Att} (h : ∀ a ∈ l, a.vals.length ≠ 0) (n : Bs) : rGet l n = getL l n := by 
  unfold rGet getL
  have e : Idn.rSorted l = Idn.aSorted l := Idn.rSorted_eq h
  first
  | (rw [e]; done)
  | (rw [e]
     cases (Idn.aSorted l).findIdx? (fun a => decide (a.name = Idn.lower n)) with
     | none => rfl
     | some k => dsimp only; cases (Idn.aSorted l)[k]? <;> rfl)
theorem rNames_l {l : List Idn.Att} (h : ∀ a ∈ l, a.vals.length ≠ 0) : (Idn.rSorted l).map (·.name) = namesL l := by unfold namesL; rw [Idn.rSorted_eq h]
theorem rSorted_len (l : List Idn.Att) : (Idn.rSorted l).length ≤ l.length := by
 unfold Idn.rSorted
 rw [List.length_map]
 exact Nat.le_trans (insAll_len _) (lows_len l)
theorem r6_Names_any (v : Value) (l : List Idn.Att) (w : World) (hv : AttsV w w.heap.size v l) (hs : Idn.ASm7 l) :
  Calls Tryz.prog 54 #[v] w (RetS w ((Idn.rSorted l).map (·.name))) := by
 have hS := r_Sorted_any v l w hv hs
 have hq1 := rSorted_len l
 have hl1 := hs.1
 generalize Idn.rSorted l = q at *
 obtain ⟨A0, c0, rfl, hc0⟩ := SlV.shape hv
 clear hv hs
 go_enter Tryz.func54, Tryz.ntmps54
 go_wp2_with fail
 refine hS.mono ?_
 rintro e w1 ⟨v', ps, rfl, hrow, hps, hb1⟩
 have hA := hrow.atts hps
 obtain ⟨A, c, rfl, hc⟩ := SlV.shape hA
 clear hS hrow hps
 go_wp2
 go_loopw [3, 5] (fun u i wr => ∃ k : Nat, k ≤ q.length ∧ i = .int .i64 k ∧ wr.ownsRow w1.heap.size 9 1 u k (((q.take k).map (·.name)).map sv) ∧ Below w1.heap.size w1 wr) (fun _ i _ => q.length - (intOf i).toNat)
 case atStart => exact ⟨0, Nat.zero_le _, rfl, World.ownsRow_nil _ _ _ _, Below.refl _ _⟩
 case round =>
  obtain ⟨k, hk, rfl, hown, hb⟩ := hrel
  by_cases hlt : k < q.length
  ·obtain ⟨b, off, va, rfl, hbl, d0, d1, hva⟩ := AttsV.cell (AttsV.keep hA hb) hlt
   have hltI : (k : Int) < (q.length : Int) := by omega
   have htk := List.take_succ_eq_append_getElem hlt
   have HTK := Lib.hid htk
   clear htk
   go_wp2_with (at_builtin; refine wpList_push wr rfl _ _ 45 rfl w1.heap.size 9 (.string ⟨#[]⟩) 1 16 Tryz.underlying45 info_str rfl (by decide) _ _ _ hown rfl [.string (B q[k].name)] rfl rfl (by intro u hu; simp at hu; subst hu; rfl) (by omega) hb.size ?_ rfl)
   intro v1 x1 ho1 _ _ hx1 _
   go_wp2
   go_roundw
   case rel => exact ⟨k + 1, by omega, by go_num, by rw [HTK.out, List.map_append, List.map_append]; simpa [sv] using ho1, hb.trans hx1⟩
   case measure => simp [intOf]; omega
  ·have hltI : ¬ (k : Int) < (q.length : Int) := by omega
   have hkl : k = q.length := by omega
   have e1 : q.take k = q := List.take_of_length_le (by omega)
   have HK := Lib.hid hkl
   rw [e1] at hown
   clear e1 hkl
   go_wp2
   go_ret
   have hfin := own_base hown hb1.size
   exact ⟨_, rfl, by rw [List.length_map, ← HK.out]; exact hfin, hb1.trans (hb.mono hb1.size)⟩
theorem r6_Get_any (v : Value) (l : List Idn.Att) (n : ByteArray) (w : World) (hv : AttsV w w.heap.size v l) (hs : Idn.ASm7 l) (hn : n.size ≤ 1000000000) :
  Calls Tryz.prog 26 #[v, .string n] w fun e w' => ∃ A k c, e = .returned (.slice A k c) ∧ StrsV w' w'.heap.size (.slice A k c) (rGet l (L n)) ∧ Below w.heap.size w w' := by
 have hS := r_Sorted_any v l w hv hs
 have hq1 := rSorted_len l
 have hl1 := hs.1
 have hL := fun W => r_lower_any n W (by omega)
 generalize hrg : rGet l (L n) = r
 have HR : Hid (r = rGet l (L n)) := hrg.symm
 unfold rGet at HR
 generalize Idn.rSorted l = q at *
 generalize Idn.lower (L n) = ln at *
 obtain ⟨A0, c0, rfl, hc0⟩ := SlV.shape hv
 clear hv hs hrg
 go_enter Tryz.func26, Tryz.ntmps26
 go_wp2_with fail
 refine hS.mono ?_
 rintro e w1 ⟨v', ps, rfl, hrow, hps, hb1⟩
 have hA := hrow.atts hps
 obtain ⟨A, c, rfl, hc⟩ := SlV.shape hA
 clear hS hrow hps
 go_wp2
 go_loopw [6] (fun i wr => ∃ k : Nat, k ≤ q.length ∧ i = .int .i64 k ∧ Below w1.heap.size w1 wr ∧ Hid (q.findIdx? (fun a => decide (a.name = ln)) = ((q.drop k).findIdx? (fun a => decide (a.name = ln))).map (· + k))) (fun i _ => q.length - (intOf i).toNat)
 case atStart => exact ⟨0, Nat.zero_le _, rfl, Below.refl _ _, by show _ = _; simp⟩
 case round =>
  obtain ⟨k, hk, rfl, hb, hinv⟩ := hrel
  have hbw := hb1.trans (hb.mono hb1.size)
  by_cases hlt : k < q.length
  ·have hAr := AttsV.keep hA hb
   obtain ⟨b, off, va, rfl, hbl, d0, d1, hva⟩ := AttsV.cell hAr hlt
   obtain ⟨Av, cv, rfl, hcv⟩ := SlV.shape hva
   have hltI : (k : Int) < (q.length : Int) := by omega
   obtain ⟨f1, f2⟩ := findIdx_drop _ q k hlt hinv.out
   have k0 := cell_regrown d0
   have q1 := cq (W := wr) fun W' _ => hL W'
   have hsame : (((B q[k].name).toList == (B ln).toList)) = decide (q[k].name = ln) := by rw [str_beq, Idn.L_B, Idn.L_B]
   clear hinv
   by_cases he : q[k].name = ln
   ·have HF : Hid (r = q[k].vals) := by
     show _ = _
     rw [HR.out, f1 (decide_eq_true he)]
     dsimp only
     rw [List.getElem?_eq_getElem hlt]
    rw [decide_eq_true he] at hsame
    clear he f1 f2
    go_wp2
    refine wp_region_quiet_below (by kernel_rfl) (by kernel_rfl) ?_
    repeat (first | go_big_quiet_step ((go_at_call 55; exact q1 _ _)) | quiet_step ((go_at_call 55; exact q1 _ _)))
    refine wpQuiet_nil ?_
    intro _ hw'
    obtain ⟨⟨dq, osq⟩, hw''⟩ := hw'
    subst hw''
    have hb4 := below_regrown wr dq osq
    generalize grow (redrawn wr dq) osq = W4 at hb4 ⊢
    clear q1 k0
    have d1' := cell_later hb4 d1
    have hv4 := SlV.mono (SlV.keep (SlV.mono hva hb.size) hb4) hb4.size
    go_wp2
    go_ret
    exact ⟨_, _, _, rfl, by rw [HF.out]; exact hv4, hbw.trans (hb4.mono hbw.size)⟩
   ·have HF : Hid (q.findIdx? (fun a => decide (a.name = ln)) = ((q.drop (k + 1)).findIdx? (fun a => decide (a.name = ln))).map (· + (k + 1))) := f2 (decide_eq_false he)
    rw [decide_eq_false he] at hsame
    clear he f1 f2
    go_wp2
    refine wp_region_quiet_below (by kernel_rfl) (by kernel_rfl) ?_
    repeat (first | go_big_quiet_step ((go_at_call 55; exact q1 _ _)) | quiet_step ((go_at_call 55; exact q1 _ _)))
    refine wpQuiet_nil ?_
    intro _ hw'
    obtain ⟨⟨dq, osq⟩, hw''⟩ := hw'
    subst hw''
    have hb4 := below_regrown wr dq osq
    generalize grow (redrawn wr dq) osq = W4 at hb4 ⊢
    clear q1 k0
    go_wp2
    go_roundw
    case rel => exact ⟨k + 1, by omega, by go_num, hb.trans (hb4.mono hb.size), HF⟩
    case measure => simp [intOf]; omega
  ·have hltI : ¬ (k : Int) < (q.length : Int) := by omega
   have HF : Hid (r = []) := by
    show _ = _
    rw [HR.out, hinv.out, List.drop_eq_nil_of_le (by omega)]; rfl
   clear hinv
   go_wp2
   go_ret
   exact ⟨_, _, _, rfl, by rw [HF.out]; exact SlV.nil _ _ _ _, hbw⟩
end Go.Proofs.YtoopoglkeeoamaaGreatDoor
