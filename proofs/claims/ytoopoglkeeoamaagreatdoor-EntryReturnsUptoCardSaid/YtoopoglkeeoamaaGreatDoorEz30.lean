/- Part 30 of the proof that identitylaw08.EntryParses and EntryReturns return true: the package variables hold what the program lays; nothing else is asked. -/
import Derived.Test.YtoopoglkeeoamaaGreatDoorEz08
import Derived.Test.YtoopoglkeeoamaaGreatDoorEz13
import Derived.Test.YtoopoglkeeoamaaGreatDoorEz14
import Derived.Test.YtoopoglkeeoamaaGreatDoorEz17
import Derived.Test.YtoopoglkeeoamaaGreatDoorEz18
import Derived.Test.YtoopoglkeeoamaaGreatDoorEz20
import Derived.Test.YtoopoglkeeoamaaGreatDoorEz27
import Derived.Test.YtoopoglkeeoamaaGreatDoorEz29
import Derived.Deep.CutBlock
import Derived.Deep.AppendLies
import Derived.Deep.DeepCutAuto
import Derived.Deep.RegionLaw
import Derived.KernelRfl
set_option linter.unusedVariables false
set_option linter.unusedSimpArgs false
/- attrs: Sorted. -/
namespace Go.Proofs.YtoopoglkeeoamaaGreatDoor
open Go.RowKit Go.Sort
open Idn (L B Bs drop_L take_L size_L)

theorem info_attr : (Tryz.prog.info? 48).map (fun i => (i.zero, i.size, i.bytes)) = some (some (.agg #[.string ⟨#[]⟩, .slice none 0 0]), 2, 40) := by kernel_rfl
theorem ixAdd {ps : List (Idn.Att × Value)} {n : Bs} : (ps.map fun p => (p.1.name, p.1.vals.length)).findIdx? (fun x => decide (x.1 = n)) = (ps.map (·.1)).findIdx? (fun a => decide (a.name = n)) := by
  rw [findIdx_map, findIdx_map]
set_option maxHeartbeats 2000000 in
set_option maxRecDepth 100000 in
theorem sortedO_any (v : Value) (l : List Idn.Att) (w : World) (hv : AttsV w w.heap.size v l) (hs : Idn.ASm7 l) (hne : ∀ a ∈ l, a.vals.length ≠ 0) :
    Calls Tryz.prog 35 #[v] w fun e w' => ∃ v' ps, e = .returned v' ∧ AttOwn w' w.heap.size v' ps ∧ ps.map (·.1) = Idn.aSorted l ∧ Below w.heap.size w w' := by
  obtain ⟨A, c, rfl, hc⟩ := SlV.shape hv
  have hl1 := hs.1
  go_enter Tryz.func35, Tryz.ntmps35
  go_upto_block 0 with fail
  go_cut [3] (fun u wx => ∃ ps, AttOwn wx w.heap.size u ps ∧ Below w.heap.size w wx ∧ Hid (ps.map (·.1) = Idn.grp [] l) ∧ ps.length ≤ 1000 ∧ ∀ p ∈ ps, p.1.vals.length ≤ 1000000000)
  case first =>
    go_wp2_with fail
    go_loopw [3, 11] (fun u i wr => ∃ (k : Nat) (ps : List (Idn.Att × Value)), k ≤ l.length ∧ i = .int .i64 k ∧ AttOwn wr w.heap.size u ps ∧ Below w.heap.size w wr ∧ Hid (Idn.grp (ps.map (·.1)) (l.drop k) = Idn.grp [] l) ∧ ps.length ≤ k ∧ ∀ p ∈ ps, p.1.vals.length ≤ k * 1100000) (fun _ i _ => l.length - (intOf i).toNat)
    case atStart => exact ⟨0, [], Nat.zero_le _, rfl, AttOwn.nil _ _, Below.refl _ _, rfl, Nat.le_refl _, by simp⟩
    case round =>
      obtain ⟨k, ps, hk, rfl, hown, hb, hinv, hpl, hpv⟩ := hrel
      by_cases hlt : k < l.length
      · obtain ⟨b, off, va, rfl, hbl, c0, c1, hva⟩ := AttsV.cell hv hlt
        obtain ⟨Av, cv, rfl, hcv⟩ := SlV.shape hva
        replace c0 := (hb.cell (p := ⟨b, off + k * 2, none⟩) hbl).trans c0
        replace c1 := (hb.cell (p := ⟨b, off + k * 2 + 1, none⟩) hbl).trans c1
        have hltI : (k : Int) < (l.length : Int) := by omega
        obtain ⟨hn9, hv9, _⟩ := hs.2 l[k] (List.getElem_mem hlt)
        have hL := fun W => lower_any (B l[k].name) W (by rw [Idn.size_B]; omega)
        rw [Idn.L_B] at hL
        have hstep := Idn.grp_step l k hlt (ps.map (·.1))
        generalize Idn.lower l[k].name = nm at *
        obtain ⟨wo, hwo⟩ : ∃ wo : World, wo = wr := ⟨_, rfl⟩
        subst hwo
        go_wp2_with fail
        with_reducible refine gen1 (R := fun W => Calls Tryz.prog 49 _ W _) ?_
        intro W hbW hszW hc1 _
        have d0 : W.cell? ⟨wo.heap.size, 0, none⟩ = some (.string (B l[k].name)) := hc1 0 _ rfl
        have d1 : W.cell? ⟨wo.heap.size, 1, none⟩ = some (.slice Av l[k].vals.length cv) := hc1 1 _ rfl
        clear hc1 hszW c0 c1
        refine (hL W).mono ?_
        rintro e w1 ⟨rfl, hb1⟩
        clear hL
        have hbo1 := hbW.trans (hb1.mono hbW.size)
        replace d1 := cell_later hb1 d1
        have hown1 := hown.keep hbo1
        have hlo := fun g => own_lt hown.1 (g := g)
        clear hown d0
        obtain ⟨Au, cu, hu⟩ := own_shape hown1.1
        rw [hu] at hlo
        subst hu
        go_wp2_with fail
        with_reducible refine gen1 (R := fun W => Calls Tryz.prog 80 _ W _) ?_
        intro W2 hbW2 hszW2 hc2 _
        have q0 : W2.cell? ⟨w1.heap.size, 0, none⟩ = some (.string (B nm)) := hc2 0 _ rfl
        clear hc2
        have hI := idxA_any 81 #[.pointer (some ⟨w1.heap.size, 0, none⟩)] fn_sorted1 _ _ _ W2 (hown1.keep hbW2).names (by rw [List.length_map]; omega) (sorted1_any.pred w1.heap.size (B nm) _ W2 q0)
        rw [Idn.L_B] at hI
        have hix : idxP (fun x : Bs × Nat => decide (x.1 = nm)) (ps.map fun p => (p.1.name, p.1.vals.length)) = idxP (fun a : Idn.Att => decide (a.name = nm)) (ps.map (·.1)) := by unfold idxP; rw [ixAdd]
        rw [hix] at hI
        clear hix
        refine hI.mono ?_
        rintro e w2 ⟨rfl, hb2⟩
        have hb12 := hbW2.trans (hb2.mono hbW2.size)
        have hown2 := hown1.keep hb12
        have q2 := cell_later hb2 q0
        have d2 := cell_later hb12 d1
        have hbo2 := hbo1.trans (hb12.mono hbo1.size)
        have hbw2 := hb.trans (hbo2.mono hb.size)
        clear hI hown1 d1 q0 hszW2
        go_upto_if 22 with fail
        go_cut [3, 7] (fun u i wx => ∃ (qs : List (Idn.Att × Value)) (j : Nat) (p : Idn.Att × Value), i = .int .i64 j ∧ AttOwn wx w.heap.size u qs ∧ qs[j]? = some p ∧ Hid ((qs.map (·.1)).set j ⟨p.1.name, p.1.vals ++ l[k].vals⟩ = Idn.addA (ps.map (·.1)) nm l[k].vals) ∧ qs.length ≤ k + 1 ∧ (∀ p ∈ qs, p.1.vals.length ≤ k * 1100000) ∧ Below w.heap.size w wx ∧ wx.cell? ⟨wo.heap.size, 1, none⟩ = some (.slice Av l[k].vals.length cv))
        case first =>
          cases hx : (ps.map (·.1)).findIdx? (fun a => decide (a.name = nm)) with
          | none =>
            have hAd := Idn.addA_none l[k].vals hx
            rw [idxP_none hx]
            clear hx
            go_wp2_with (at_builtin; refine wpList_push w2 rfl _ _ 22 rfl w.heap.size 48 (.agg #[.string ⟨#[]⟩, .slice none 0 0]) 2 40 Tryz.underlying22 info_attr rfl (by decide) _ ps.length _ hown2.1 rfl [.string (B nm), .slice none 0 0] rfl rfl (by intro u hu; simp at hu; rcases hu with rfl | rfl <;> rfl) (by omega) hbw2.size ?_ rfl)
            intro v' w3 hown3 hg3 hat3 hb3 _
            have hP := hown2.push (n := nm) hown3 hg3
            have d3 : w3.cell? ⟨wo.heap.size, 1, none⟩ = some (.slice Av l[k].vals.length cv) := by
              rw [World.cell?_of_block (w := w2) (hg3.block wo.heap.size (World.block_lt_of_cell? _ _ d2) (fun e => by have := hlo _ e.symm; omega))]
              exact d2
            have HS : Hid (((ps ++ [((⟨nm, []⟩ : Idn.Att), Value.slice none 0 0)]).map (·.1)).set ps.length ⟨nm, [] ++ l[k].vals⟩ = Idn.addA (ps.map (·.1)) nm l[k].vals) := by
              show _ = _
              rw [hAd, List.map_append, List.set_append_right _ _ (by simp)]
              simp
            clear hAd
            go_wp2_with fail
            go_meet
            refine ⟨_, ps.length, (⟨nm, []⟩, .slice none 0 0), rfl, hP, by simp, HS, by simp; omega, ?_, hbw2.trans hb3, d3⟩
            intro p hp
            rcases List.mem_append.1 hp with hp | hp
            · exact hpv p hp
            · simp at hp; subst hp; simp
          | some j =>
            have hjl : j < (ps.map (·.1)).length := (List.findIdx?_eq_some_iff_getElem.1 hx).1
            have hAd := Idn.addA_some l[k].vals hx hjl
            rw [idxP_some hx]
            have hj0 : ¬ ((j : Int) < 0) := by omega
            rw [List.length_map] at hjl
            have HS : Hid ((ps.map (·.1)).set j ⟨ps[j].1.name, ps[j].1.vals ++ l[k].vals⟩ = Idn.addA (ps.map (·.1)) nm l[k].vals) := by
              show _ = _
              rw [hAd]; simp
            clear hx hAd
            go_wp2_with fail
            go_meet
            exact ⟨ps, j, ps[j], rfl, hown2, List.getElem?_eq_getElem hjl, HS, by omega, hpv, hbw2, d2⟩
        case rest =>
          obtain ⟨qs, j, p, rfl, hownc, hpj, hset, hql, hqv, hbc, d3⟩ := hcut
          have hjl := (List.getElem?_eq_some_iff.1 hpj).1
          obtain ⟨g, cap, hu, _, hgl⟩ := hownc.1.form (by omega)
          subst hu
          have hjI : (j : Int) < (qs.length : Int) := by omega
          obtain ⟨Ap, cp, hup⟩ := own_shape (hownc.2.1 p (List.mem_of_getElem? hpj))
          have hcells : wc.cell? ⟨g, j * 2 + 1, none⟩ = some (.slice Ap p.1.vals.length cp) := by
            have e : ∀ j, ((⟨g, 0, none⟩ : Addr).add j) = ⟨g, j, none⟩ := fun j => by unfold Addr.add; split <;> simp_all
            have := hownc.1.cells (g := g) rfl _ _ (rowA_at qs j p hpj).2
            rw [e, hup] at this
            exact this
          have hownd : AttOwn wc.drew w.heap.size (.slice (some ⟨g, 0, none⟩) qs.length cap) qs := hownc
          have hownp : wc.drew.ownsRow w.heap.size 9 1 (.slice Ap p.1.vals.length cp) p.1.vals.length (p.1.vals.map sv) := by
            have := hownc.2.1 p (List.mem_of_getElem? hpj)
            rw [hup] at this
            exact this
          have hvd : StrsV wc.drew w.heap.size (.slice Av l[k].vals.length cv) l[k].vals := by
            have : StrsV wc w.heap.size (.slice Av l[k].vals.length cv) l[k].vals := SlV.keep hva hbc
            exact this
          have hbd : w.heap.size ≤ wc.drew.heap.size := hbc.size
          have hpk := hqv p (List.mem_of_getElem? hpj)
          have hkk : k * 1100000 ≤ 900 * 1100000 := Nat.mul_le_mul_right _ (by omega)
          clear hownc hown2 hb12 hb1 hbW hbo1 hbo2 hbw2 hb2 hbW2 q2 d2
          go_wp2_with fail
          go_region_law (refine step_appendS rfl _ _ 45 rfl w.heap.size 9 Tryz.underlying45 info_str _ _ _ hownp rfl _ l[k].vals _ hvd rfl (by omega) hbd ?_; intro v' w' hown' hg' hat'; obtain ⟨st1, st2, hnew⟩ := hownd.grow hpj hown' (by rw [hup]; exact hg') (by rw [hup]; exact hat'); rw [hup] at st1; obtain ⟨A9, c9, hv9⟩ := own_shape hown'; subst hv9)
          all_goals
            have hHF : Hid (Idn.grp ((qs.set j (⟨p.1.name, p.1.vals ++ l[k].vals⟩, .slice A9 (p.1.vals.length + l[k].vals.length) c9)).map (·.1)) (l.drop (k + 1)) = Idn.grp [] l) := by
              show _ = _
              rw [List.map_set, hset.out, ← hstep]; exact hinv.out
            have hgb : w.heap.size ≤ g := (hownd.1.lt g rfl).1
            have hbf : Below w.heap.size w (w'.setCell ⟨g, j * 2 + 1, none⟩ (.slice A9 (p.1.vals.length + l[k].vals.length) c9)) :=
              (((hbc.drew).grown hg' hbc.size (fun k' hk' => (hownp.lt k' hk').1))).setCell (p := ⟨g, j * 2 + 1, none⟩) hgb _
            go_wp2_with fail
            go_roundw
            case rel =>
              refine ⟨k + 1, _, by omega, by go_num, hnew, hbf, hHF, by rw [List.length_set]; exact hql, fun q hq => ?_⟩
              rcases List.mem_or_eq_of_mem_set hq with hq | rfl
              · exact Nat.le_trans (hqv q hq) (Nat.mul_le_mul_right _ (Nat.le_succ k))
              · show (p.1.vals ++ l[k].vals).length ≤ _; rw [List.length_append, Nat.succ_mul]; exact Nat.add_le_add hpk hv9
            case measure => simp [intOf]; omega
      · have hltI : ¬ (k : Int) < (l.length : Int) := by omega
        have HF : Hid (ps.map (·.1) = Idn.grp [] l) := by show _ = _; rw [← hinv.out, List.drop_eq_nil_of_le (by omega)]; rfl
        go_wp2_with fail
        go_meet
        refine ⟨ps, hown, hb, HF, by omega, fun p hp => ?_⟩
        have := hpv p hp
        have : k * 1100000 ≤ 900 * 1100000 := Nat.mul_le_mul_right _ (by omega)
        omega
  case rest =>
    obtain ⟨ps, hown, hb, hps, hpl, hpv⟩ := hcut
    have hne' : ∀ p ∈ ps, p.1.vals.length ≠ 0 := Idn.grp_ne' hps.out hne
    obtain ⟨Au, cu, hu⟩ := own_shape hown.1
    subst hu
    have hD := delNone_any _ _ wc hown.names (by rw [List.length_map]; omega) (fun x hx => by
      obtain ⟨p, hp, rfl⟩ := List.mem_map.1 hx
      exact hne' p hp)
    go_wp2_with fail
    refine hD.mono ?_
    rintro e w1 ⟨rfl, hb1⟩
    have hown1 := hown.keep hb1
    have hbw1 := hb.trans (hb1.mono hb.size)
    clear hown hD
    go_upto_block 2 with fail
    go_cut [] (fun wx => ∃ qs, AttOwn wx w.heap.size (.slice Au ps.length cu) qs ∧ Below w.heap.size w wx ∧ Hid (qs.map (·.1) = (ps.map (·.1)).map Idn.normA) ∧ qs.length = ps.length)
    case first =>
      go_wp2_with fail
      go_loopw [8, 47] (fun _ i wr => ∃ (k : Nat) (qs : List (Idn.Att × Value)), k ≤ ps.length ∧ i = .int .i64 k ∧ AttOwn wr w.heap.size (.slice Au ps.length cu) qs ∧ Below w.heap.size w wr ∧ Hid (qs.map (·.1) = ((ps.map (·.1)).take k).map Idn.normA ++ (ps.map (·.1)).drop k) ∧ qs.length = ps.length) (fun _ i _ => ps.length - (intOf i).toNat)
      case atStart => exact ⟨0, ps, Nat.zero_le _, rfl, hown1, hbw1, by show _ = _; simp, rfl⟩
      case round =>
        obtain ⟨k, qs, hk, rfl, hown, hbr, hinv, hql⟩ := hrel
        by_cases hlt : k < ps.length
        · have hltI : (k : Int) < (ps.length : Int) := by omega
          obtain ⟨q, hqk⟩ : ∃ q, qs[k]? = some q := ⟨_, List.getElem?_eq_getElem (by omega)⟩
          obtain ⟨g, cap, hu, _, hgl⟩ := hown.1.form (by omega)
          injection hu with hu1 hu2 hu3
          subst hu1 hu3
          have hqm : q ∈ qs := List.mem_of_getElem? hqk
          have hq1 : q.1 = ps[k].1 := by
            have := congrArg (·[k]?) hinv.out
            simp only [List.getElem?_map, hqk, Option.map_some] at this
            rw [List.getElem?_append_right (by simp; omega)] at this
            simp [hlt, Nat.min_eq_left (Nat.le_of_lt hlt)] at this
            exact this
          have hpm : ps[k] ∈ ps := List.getElem_mem _
          have hvn := hne' _ hpm
          have hvb := hpv _ hpm
          obtain ⟨k0, k1, kf, kb⟩ := hown.cell hqk
          have hou := hown.2.1 _ hqm
          rw [hq1] at hou
          obtain ⟨g1, cap1, hv1, hgb1, hg1⟩ := hou.form (by omega)
          rw [hv1] at hou k1
          have hSo := sort_own g1 cap1 ps[k].1.vals w.heap.size wr hou (by omega) hvb hbr.size
          have hHq : Hid (qs.set k (⟨ps[k].1.name, Lib.compact (sorted ps[k].1.vals)⟩, q.2) = qs.set k (⟨ps[k].1.name, Lib.compact (sorted ps[k].1.vals)⟩, q.2)) := rfl
          have HQK := Lib.hid hqk
          have HQ1 := Lib.hid hq1
          have HV1 := Lib.hid hv1
          have HQL := Lib.hid hql
          clear hHq hqk hq1 hv1 hql k0 hu2
          go_wp2_with fail
          refine hSo.mono ?_
          rintro e w2 ⟨rfl, hou2, hg2⟩
          have hsl : (sorted ps[k].1.vals).length = ps[k].1.vals.length := sorted_len _
          have hou2' : w2.ownsRow w.heap.size 9 1 (.slice (some ⟨g1, 0, none⟩) (sorted ps[k].1.vals).length cap1) (sorted ps[k].1.vals).length ((sorted ps[k].1.vals).map sv) := by rw [hsl]; exact hou2
          have hown2 := hown.turn (vals := sorted ps[k].1.vals) HQK.out (by rw [HV1.out, hsl]; exact hou2) (by rw [HV1.out]; exact hg2)
          have hk2 : (qs.set k (⟨q.1.name, sorted ps[k].1.vals⟩, q.2))[k]? = some (⟨q.1.name, sorted ps[k].1.vals⟩, q.2) := by simp [HQL.out, hlt]
          obtain ⟨_, k12, kf2, _⟩ := hown2.cell hk2
          rw [HV1.out] at k12
          have hb2 : Below w.heap.size w w2 := hbr.grown hg2 hbr.size (fun x hx => by injection hx with hx; omega)
          have hCo := compact_own g1 cap1 (sorted ps[k].1.vals) w.heap.size w2 hou2' (by rw [hsl]; omega) (by rw [hsl]; exact hvb)
          rw [hsl] at hCo
          have hgl2 : g < w2.heap.size := World.block_lt_of_cell? _ _ k12
          clear hSo hown hou2 hou2' hou kf k1 hsl
          go_wp2_with fail
          refine hCo.mono ?_
          rintro e w3 ⟨rfl, hou3, hg3⟩
          clear hCo
          obtain ⟨st1, st2, hown3⟩ := hown2.put (u' := .slice (some ⟨g1, 0, none⟩) (Lib.compact (sorted ps[k].1.vals)).length cap1) hk2 hou3 (by rw [HV1.out]; exact hg3) (.inl (by rw [HV1.out]; rfl))
          dsimp only at st1 hown3
          rw [HV1.out] at st1
          have hb3 : Below w.heap.size w w3 := hb2.grown hg3 hb2.size (fun x hx => by injection hx with hx; omega)
          have hgl3 : g < w3.heap.size := World.block_lt_of_cell? _ _ st1
          have HF : Hid (((qs.set k (⟨q.1.name, sorted ps[k].1.vals⟩, q.2)).set k (⟨q.1.name, Lib.compact (sorted ps[k].1.vals)⟩, .slice (some ⟨g1, 0, none⟩) (Lib.compact (sorted ps[k].1.vals)).length cap1)).map (·.1) = ((ps.map (·.1)).take (k + 1)).map Idn.normA ++ (ps.map (·.1)).drop (k + 1)) := by
            show _ = _
            rw [List.set_set, List.map_set, hinv.out, HQ1.out]
            have hl : k < (ps.map (·.1)).length := by simpa using hlt
            rw [List.set_append_right _ _ (by simp; omega), List.take_succ_eq_append_getElem hl, List.map_append, List.drop_eq_getElem_cons hl]
            simp [Nat.min_eq_left (Nat.le_of_lt hlt)]
            rfl
          clear hown2 hk2 k12 kf2 hou3
          go_wp2_with fail
          go_roundw
          case rel => exact ⟨k + 1, _, by omega, by go_num, hown3, hb3.setCell (p := ⟨g, k * 2 + 1, none⟩) kb _, HF, by rw [List.length_set, List.length_set]; exact HQL.out⟩
          case measure => simp [intOf]; omega
        · have hltI : ¬ (k : Int) < (ps.length : Int) := by omega
          have HF : Hid (qs.map (·.1) = (ps.map (·.1)).map Idn.normA) := by
            show _ = _
            rw [hinv.out, List.take_of_length_le (by simp; omega), List.drop_eq_nil_of_le (by simp; omega), List.append_nil]
          go_wp2_with fail
          go_meet
          exact ⟨qs, hown, hbr, HF, hql⟩
    case rest =>
      obtain ⟨qs, hown, hb, hq, hql⟩ := hcut
      have hnd : ((qs.map (·.1)).map (·.name)).Nodup := by
        rw [hq.out, Idn.norm_names, hps.out]
        exact Idn.grp_nd l [] (by simp)
      have hS := sortA_any _ w.heap.size qs wc hown hb.size (by omega) hnd
      rw [hq.out, hps.out] at hS
      clear hown
      go_wp2_with fail
      refine hS.mono ?_
      rintro e w4 ⟨rfl, qs', hown', hq', hb'⟩
      clear hS
      go_wp2_with fail
      go_ret
      exact ⟨_, qs', rfl, hown', hq', hb.trans hb'⟩
theorem sorted_any (v : Value) (l : List Idn.Att) (w : World) (hv : AttsV w w.heap.size v l) (hs : Idn.ASm7 l) (hne : ∀ a ∈ l, a.vals.length ≠ 0) :
    Calls Tryz.prog 35 #[v] w fun e w' => ∃ v', e = .returned v' ∧ AttsV w' w'.heap.size v' (Idn.aSorted l) ∧ Below w.heap.size w w' :=
  (sortedO_any v l w hv hs hne).mono fun _ _ ⟨v', ps, h1, h2, h3, h4⟩ => ⟨v', h1, h2.atts h3, h4⟩
end Go.Proofs.YtoopoglkeeoamaaGreatDoor
/- attrs: Names, Get. -/
namespace Go.Proofs.YtoopoglkeeoamaaGreatDoor
open Go.RowKit Go.Sort
open Idn (L B Bs drop_L take_L size_L)

def namesL (l : List Idn.Att) : List Bs := (Idn.aSorted l).map (·.name)
def getL (l : List Idn.Att) (n : Bs) : List Bs := match (Idn.aSorted l).findIdx? (fun a => decide (a.name = Idn.lower n)) with
  | none => []
  | some k => match (Idn.aSorted l)[k]? with | none => [] | some a => a.vals
theorem aSorted_len (l : List Idn.Att) : (Idn.aSorted l).length = (Idn.grp [] l).length := by simp [Idn.aSorted]
theorem addA_len (ps : List Idn.Att) (n : Bs) (vs : List Bs) : (Idn.addA ps n vs).length ≤ ps.length + 1 := by
  unfold Idn.addA
  split
  · simp
  · split <;> simp
theorem grp_len : ∀ (l acc : List Idn.Att), (Idn.grp acc l).length ≤ acc.length + l.length
  | [], acc => by simp [Idn.grp]
  | a :: l, acc => by
    have h1 := grp_len l (Idn.addA acc (Idn.lower a.name) a.vals)
    have h2 := addA_len acc (Idn.lower a.name) a.vals
    simp only [Idn.grp, List.length_cons]
    omega
set_option maxHeartbeats 1000000 in
set_option maxRecDepth 100000 in
theorem names_any (v : Value) (l : List Idn.Att) (w : World) (hv : AttsV w w.heap.size v l) (hs : Idn.ASm7 l) (hne : ∀ a ∈ l, a.vals.length ≠ 0) :
    Calls Tryz.prog 66 #[v] w (RetS w (namesL l)) := by
  have hS := sorted_any v l w hv hs hne
  have hlen := aSorted_len l
  have hgl := grp_len l []
  have hl1 := hs.1
  have hres : Hid (namesL l = (Idn.aSorted l).map (·.name)) := rfl
  generalize namesL l = res at *
  generalize Idn.aSorted l = q at *
  have hq : q.length ≤ 1000 := by simp at hgl; omega
  obtain ⟨A0, c0, rfl, hc0⟩ := SlV.shape hv
  clear hv hs hne hgl hlen
  go_enter Tryz.func66, Tryz.ntmps66
  go_wp2_with fail
  refine hS.mono ?_
  rintro e w1 ⟨v1, rfl, hq1, hb1⟩
  obtain ⟨A, c, rfl, hc⟩ := SlV.shape hq1
  clear hS
  go_wp2
  go_loopw [3, 9] (fun u i wr => ∃ k : Nat, k ≤ q.length ∧ i = .int .i64 k ∧ wr.ownsRow w1.heap.size 9 1 u k (((q.take k).map (·.name)).map sv) ∧ Below w1.heap.size w1 wr) (fun _ i _ => q.length - (intOf i).toNat)
  case atStart => exact ⟨0, Nat.zero_le _, rfl, World.ownsRow_nil _ _ _ _, Below.refl _ _⟩
  case round =>
    obtain ⟨k, hk, rfl, hown, hb⟩ := hrel
    by_cases hlt : k < q.length
    · obtain ⟨b, off, va, rfl, hbl, c0, c1, hva⟩ := AttsV.cell (AttsV.keep hq1 hb) hlt
      obtain ⟨Av, cv, rfl, hcv⟩ := SlV.shape hva
      have hltI : (k : Int) < (q.length : Int) := by omega
      have ba := (Below.refl wr.heap.size wr).alloc (Nat.le_refl _) (.cells #[.string (B q[k].name), .slice Av q[k].vals.length cv] 48)
      have hown1 := own_below hown ba
      have hbw := hb.trans (ba.mono hb.size)
      have hbs1 := hbw.size
      have hsza : (wr.alloc (.cells #[.string (B q[k].name), .slice Av q[k].vals.length cv] 48)).heap.size = wr.heap.size + 1 := by simp
      have Hsza := Lib.hid hsza
      clear hva hown ba hsza
      go_wp2_with (at_builtin; refine wpList_push (wr.alloc (.cells #[.string (B q[k].name), .slice Av q[k].vals.length cv] 48)) rfl _ _ 45 rfl w1.heap.size 9 (.string ⟨#[]⟩) 1 16 Tryz.underlying45 info_str rfl (by decide) _ k _ hown1 rfl [.string (B q[k].name)] (by rw [Hsza.out]; rfl) rfl (by intro u hu; simp at hu; subst hu; rfl) (by omega) hbs1 ?_ rfl)
      intro v' w1' hown' _ _ hb' _
      clear hown1
      go_wp2
      go_roundw
      case rel =>
        refine ⟨k + 1, by omega, by go_num, ?_, hbw.trans hb'⟩
        rw [List.take_succ_eq_append_getElem hlt, List.map_append, List.map_append]
        simpa [sv] using hown'
      case measure => simp [intOf]; omega
    · have hkl : k = q.length := by omega
      have hltI : ¬ (k : Int) < (q.length : Int) := by omega
      subst hkl
      rw [List.take_length] at hown
      go_wp2
      go_ret
      refine ⟨_, rfl, ?_, hb1.trans (hb.mono hb1.size)⟩
      rw [hres.out, List.length_map]
      exact own_base hown hb1.size
theorem get_len {l : List Idn.Att} {k m : Nat} (h : ∀ a ∈ l, a.vals.length ≤ k) (hm : l.length * k ≤ m) (n : Bs) : (getL l n).length ≤ m := by
  unfold getL
  split
  · simp
  · split
    · simp
    · rename_i a ha
      obtain ⟨b, hb, rfl⟩ := Idn.aSorted_from (List.mem_of_getElem? ha)
      have h1 := Lib.compact_length_le (Idn.srt b.vals)
      have h2 : (Idn.srt b.vals).length = b.vals.length := by simp [Idn.srt]
      have h3 := Idn.grp_le k l [] 0 (by simp) h b hb
      show (Lib.compact (Idn.srt b.vals)).length ≤ m
      omega
theorem get_all {p : Bs → Prop} {l : List Idn.Att} (h : ∀ a ∈ l, ∀ x ∈ a.vals, p x) (n : Bs) : ∀ x ∈ getL l n, p x := by
  unfold getL
  split
  · simp
  · split
    · simp
    · rename_i a ha
      obtain ⟨b, hb, rfl⟩ := Idn.aSorted_from (List.mem_of_getElem? ha)
      intro x hx
      exact Idn.grp_all l [] (by simp) h b hb x (Idn.srt_mem (compact_mem hx))
set_option maxHeartbeats 1000000 in
set_option maxRecDepth 100000 in
theorem get_any (v : Value) (l : List Idn.Att) (n : ByteArray) (w : World) (hv : AttsV w w.heap.size v l) (hs : Idn.ASm7 l) (hne : ∀ a ∈ l, a.vals.length ≠ 0) (hn : n.size ≤ 1000000000) :
    Calls Tryz.prog 70 #[v, .string n] w fun e w' => ∃ A k c, e = .returned (.slice A k c) ∧ StrsV w' w'.heap.size (.slice A k c) (getL l (L n)) ∧ (∀ b off, A = some ⟨b, off, none⟩ → w.heap.size ≤ b) ∧ Below w.heap.size w w' := by
  have hS := sortedO_any v l w hv hs hne
  have hlen := aSorted_len l
  have hgl := grp_len l []
  have hl1 := hs.1
  have hbd := get_len (fun a ha => (hs.2 a ha).2.1) (Nat.le_refl _) (L n)
  have hres : Hid (getL l (L n) = match (Idn.aSorted l).findIdx? (fun a => decide (a.name = Idn.lower (L n))) with
    | none => []
    | some k => match (Idn.aSorted l)[k]? with | none => [] | some a => a.vals) := rfl
  generalize getL l (L n) = res at *
  generalize Idn.aSorted l = q at *
  have hq : q.length ≤ 1000 := by simp at hgl; omega
  obtain ⟨A0, c0, rfl, hc0⟩ := SlV.shape hv
  clear hv hs hne hgl hlen
  go_enter Tryz.func70, Tryz.ntmps70
  go_wp2_with fail
  refine hS.mono ?_
  rintro e w1 ⟨v1, ps, rfl, hown, hpq, hb1⟩
  have hpl : ps.length = q.length := by rw [← hpq, List.length_map]
  have hF := find_any v1 q n w1 (hown.atts hpq) (by omega) hn
  obtain ⟨A, c, hv1⟩ := own_shape hown.1
  subst hv1
  clear hS
  have HPL := Lib.hid hpl
  have HPQ := Lib.hid hpq
  have hpl9 : ps.length ≤ 1000 := by omega
  clear hpq hpl
  cases hx : q.findIdx? (fun a => decide (a.name = Idn.lower (L n))) with
  | none =>
    have HF : Hid (res = []) := by show _ = _; rw [hres.out, hx]
    rw [idxP_none hx] at hF
    clear hx
    go_wp2_with fail
    refine hF.mono ?_
    rintro e w2 ⟨rfl, hb2⟩
    go_wp2
    go_ret
    exact ⟨none, 0, 0, rfl, by rw [HF.out]; exact SlV.nil _ _ _ _, by simp, hb1.trans (hb2.mono hb1.size)⟩
  | some k =>
    have hkl : k < q.length := (List.findIdx?_eq_some_iff_getElem.1 hx).1
    have HF : Hid (res = q[k].vals) := by show _ = _; rw [hres.out, hx]; simp [hkl]
    rw [idxP_some hx] at hF
    have hkp : k < ps.length := by rw [HPL.out]; exact hkl
    have hkI : (k : Int) < (ps.length : Int) := by omega
    have hk0 : ¬ ((k : Int) < 0) := by omega
    clear hx
    obtain ⟨g, cap, hu, _, hgl⟩ := hown.1.form (by omega)
    injection hu with hu1 hu2 hu3
    subst hu1 hu3
    have hpk : ps[k]? = some ps[k] := List.getElem?_eq_getElem (by omega)
    have hp1 : ps[k].1 = q[k] := by
      have := HPQ.out
      subst this
      simp
    have HP1 := Lib.hid hp1
    have hpm : ps[k] ∈ ps := List.getElem_mem _
    clear hp1
    generalize ps[k] = p at *
    have HPK := Lib.hid hpk
    clear hpk
    obtain ⟨Av, cv, hup⟩ := own_shape (hown.2.1 p hpm)
    go_wp2_with fail
    refine hF.mono ?_
    rintro e w2 ⟨rfl, hb2⟩
    have hown2 := hown.keep hb2
    obtain ⟨c0, c1, _, _⟩ := hown2.cell HPK.out
    have ho := hown2.2.1 p hpm
    rw [hup] at c1 ho
    have hge : ∀ b off, Av = some ⟨b, off, none⟩ → w.heap.size ≤ b := fun b off e => by
      subst e
      obtain ⟨g', e1, e2, _⟩ : ∃ g', (⟨b, off, none⟩ : Addr) = ⟨g', 0, none⟩ ∧ w.heap.size ≤ g' ∧ True := by
        rcases ho.2 with ⟨hn, _⟩ | ⟨g', cap', cur, hv, hb', _⟩
        · cases hn
        · injection hv with hv1
          injection hv1 with hv1
          exact ⟨g', hv1, hb', trivial⟩
      injection e1 with e1
      omega
    obtain ⟨Aw, cw, ew, hcw, hrd⟩ := StrsV.of_own ho
    injection ew with ew1 ew2 ew3
    subst ew1
    have hvc : (p.1.vals.length : Int) ≤ (cv : Int) := by omega
    have hv0 : (0 : Int) ≤ (p.1.vals.length : Int) := by omega
    clear hF hown hown2 ho hup hpm
    go_wp2
    go_ret
    exact ⟨Av, p.1.vals.length, p.1.vals.length, rfl, by rw [HF.out, ← HP1.out]; exact ⟨Av, _, rfl, Nat.le_refl _, hrd⟩, hge, hb1.trans (hb2.mono hb1.size)⟩
end Go.Proofs.YtoopoglkeeoamaaGreatDoor
/- schema: classed. -/
namespace Go.Proofs.YtoopoglkeeoamaaGreatDoor
open Go.RowKit Go.Sort
open Idn (L B Bs drop_L take_L size_L)

def clKey (s : Idn.Sch) (k : Bs) : Bool := s.classes.any fun c => decide (Idn.lower c.name = k)
def clsGo (s : Idn.Sch) (hv : List Bs) : List Bs → List Bs → Option (List Bs)
  | al, [] => some al
  | al, v :: l => if !clKey s (Idn.fold v) then none else if (mustL s (Idn.fold v)).any (fun m => !hv.contains m) then none else clsGo s hv (al ++ mayL s (Idn.fold v)) l
def classedB (s : Idn.Sch) (hv vals : List Bs) : Bool := match clsGo s hv [Idn.mainN] vals with | none => false | some al => decide (0 < vals.length) && !hv.any (fun x => !al.contains x)
theorem clsGo_step (s : Idn.Sch) (hv al l : List Bs) (k : Nat) (hk : k < l.length) (r : Option (List Bs)) (h : r = clsGo s hv al (l.drop k)) :
    (clKey s (Idn.fold l[k]) = false → r = none) ∧ (clKey s (Idn.fold l[k]) = true → (mustL s (Idn.fold l[k])).any (fun m => !hv.contains m) = true → r = none) ∧
    (clKey s (Idn.fold l[k]) = true → (mustL s (Idn.fold l[k])).any (fun m => !hv.contains m) = false → r = clsGo s hv (al ++ mayL s (Idn.fold l[k])) (l.drop (k + 1))) := by
  rw [List.drop_eq_getElem_cons hk, clsGo] at h
  refine ⟨fun h1 => ?_, fun h1 h2 => ?_, fun h1 h2 => ?_⟩
  · rw [h, h1]; rfl
  · rw [h, h1, h2]; rfl
  · rw [h, h1, h2]; rfl
theorem clKey_lk {es : List (Bs × Value)} {s : Idn.Sch} (h : ClK es s.classes) (k : Bs) : (lk es k).isSome = clKey s k := by
  unfold lk clKey
  have e : s.classes.any (fun c => decide (Idn.lower c.name = k)) = (s.classes.map fun c => Idn.lower c.name).any (fun x => decide (x = k)) := by rw [List.any_map]; rfl
  rw [e, ← h, List.any_map]
  rw [Bool.eq_iff_iff]
  simp [List.any_eq_true]
set_option maxRecDepth 100000 in
theorem classed1_any (x : Bs) (q : Nat) (u : Value) (al : List Bs) (w : World) (hc : w.cell? ⟨q, 0, none⟩ = some u) (hu : StrsV w w.heap.size u al) (hl : al.length ≤ 1000000000) :
    Calls Tryz.prog 167 #[.string (B x), .pointer (some ⟨q, 0, none⟩)] w fun e w' => e = .returned (.bool (!al.contains x)) ∧ Below w.heap.size w w' := by
  obtain ⟨A, c, rfl, hcc⟩ := hu.shape
  have hC := contains_any _ al (B x) w hu hl
  rw [Idn.L_B] at hC
  generalize al.contains x = b at *
  go_enter Tryz.func167, Tryz.ntmps167
  go_wp2_with (go_at_call 140; refine hC.mono ?_; rintro e w3 ⟨rfl, rfl⟩)
  go_ret
  exact ⟨rfl, Below.refl _ _⟩
theorem fn_classed1 : FnB 167 := by intro a w; kernel_rfl
theorem namesL_len {l : List Idn.Att} (h : Idn.ASm7 l) : (namesL l).length ≤ 1000 := by
  have h1 := grp_len l []
  have h2 := h.1
  unfold namesL
  rw [List.length_map, aSorted_len]
  simp at h1; omega
theorem mayL_len {s : Idn.Sch} (hbd : Bd s) (n : Bs) : (mayL s n).length ≤ 4096 := by
  have h1 := linS_len s n
  have h2 := flat_len (·.may) 64 ((Idn.lin s n).filterMap (s.classes[·]?)) (fun c hc => (hbd.2 c (linS_mem hc)).2)
  have h3 := merged_len (mustL s n ++ ((Idn.lin s n).filterMap (s.classes[·]?)).flatMap (·.may))
  have h4 := mustL_len hbd n
  have := hbd.1
  unfold mayL
  rw [List.length_append] at h3
  omega
theorem StrsV.grown {w w' : World} {hi n c : Nat} {A : Option Addr} {l : List Bs} {row : Option Nat} (h : StrsV w hi (.slice A n c) l) (hg : w.grownBy w' row) (hs : ∀ b off, A = some ⟨b, off, none⟩ → row ≠ some b) (hh : hi ≤ w.heap.size) : StrsV w' hi (.slice A n c) l := by
  obtain ⟨A', c', e, h1, h2⟩ := h
  injection e with e1 e2 e3
  subst e1
  refine ⟨A, c', by rw [e2, e3], h1, fun hp => ?_⟩
  obtain ⟨b, off, hA, hb, hx⟩ := h2 hp
  refine ⟨b, off, hA, hb, fun i x hix => ?_⟩
  obtain ⟨cs, h3, h4, h5⟩ := hx i x hix
  exact ⟨cs, h3, h4, fun j u hj => (World.cell?_of_block (w := w) (hg.block b (by omega) (fun e => hs b off hA e.symm))).trans (h5 j u hj)⟩
theorem StrsV.put {w : World} {hi n c p i : Nat} {A : Option Addr} {l : List Bs} (h : StrsV w hi (.slice A n c) l) (hs : ∀ b off, A = some ⟨b, off, none⟩ → b ≠ p) (v : Value) : StrsV (w.setCell ⟨p, i, none⟩ v) hi (.slice A n c) l := by
  obtain ⟨A', c', e, h1, h2⟩ := h
  injection e with e1 e2 e3
  subst e1
  refine ⟨A, c', by rw [e2, e3], h1, fun hp => ?_⟩
  obtain ⟨b, off, hA, hb, hx⟩ := h2 hp
  refine ⟨b, off, hA, hb, fun i x hix => ?_⟩
  obtain ⟨cs, h3, h4, h5⟩ := hx i x hix
  exact ⟨cs, h3, h4, fun j u hj => (World.cell?_of_block (w := w) (Below.heap_setCell _ _ _ _ (by show b ≠ p; exact hs b off hA))).trans (h5 j u hj)⟩
theorem grown_cell {w w' : World} {p i : Nat} {row : Option Nat} {u : Value} (hg : w.grownBy w' row) (hc : w.cell? ⟨p, i, none⟩ = some u) (hne : some p ≠ row) : w'.cell? ⟨p, i, none⟩ = some u :=
  (World.cell?_of_block (w := w) (hg.block p (World.block_lt_of_cell? _ _ hc) hne)).trans hc
theorem grown_frozen {w w' : World} {p i : Nat} {row : Option Nat} (hg : w.grownBy w' row) (hp : p < w.heap.size) (hc : w.frozen? ⟨p, i, none⟩ = false) (hne : some p ≠ row) : w'.frozen? ⟨p, i, none⟩ = false :=
  (World.frozen?_of_block (w := w) (hg.block p hp hne)).trans hc
theorem genRB {R : World → Prop} {w : World} {x : ByteArray} {t1 t2 : TypeId}
    (h : ∀ W, Below w.heap.size w W → W.heap.size = w.heap.size + 2 → W.ownsRow w.heap.size t1 1 (.slice (some ⟨w.heap.size, 0, none⟩) 1 1) 1 [.string x] → W.cell? ⟨w.heap.size + 1, 0, none⟩ = some (.slice (some ⟨w.heap.size, 0, none⟩) 1 1) →
      W.frozen? ⟨w.heap.size + 1, 0, none⟩ = false → R W) : R ((w.alloc (.cells #[.string x] t1)).alloc (.cells #[.slice (some ⟨w.heap.size, 0, none⟩) 1 1] t2)) := by
  have e1 : (w.alloc (.cells #[.string x] t1)).heap.size = w.heap.size + 1 := by simp
  have hnew : ((w.alloc (.cells #[.string x] t1)).alloc (.cells #[.slice (some ⟨w.heap.size, 0, none⟩) 1 1] t2)).heap[w.heap.size + 1]? = some (.cells #[.slice (some ⟨w.heap.size, 0, none⟩) 1 1] t2 (0, 0)) := by
    rw [← e1]; exact heap_alloc_new _ _
  have hw := World.ownsRow_lit (base := w.heap.size) (e := t1) (size := 1) w #[.string x] 1 (Nat.le_refl _) (by decide) rfl
  refine h _ (((Below.refl _ _).alloc (Nat.le_refl _) _).alloc (by simp) _) (by simp) (hw.alloc _) ?_ (Lib.frozen_of_heap hnew 0)
  rw [cell_of_row _ _ 0 _ _ (0, 0) hnew]; rfl
set_option maxHeartbeats 2000000 in
set_option maxRecDepth 100000 in
theorem classed_any (m1 m2 : Value) (s : Idn.Sch) (hi : Nat) (v : Value) (l : List Idn.Att) (w : World) (hk : KnV w hi m1 m2 s) (hh : hi ≤ w.heap.size) (hd : Idn.Dec s.classes) (hs : SSm s) (hbd : Bd s) (hv : AttsV w w.heap.size v l) (hs7 : Idn.ASm7 l) (hne : ∀ a ∈ l, a.vals.length ≠ 0)
    (hgl : (getL l Idn.mainN).length ≤ 100000) (hgx : ∀ x ∈ getL l Idn.mainN, x.length ≤ 100000000) :
    Calls Tryz.prog 100 #[.agg #[m1, m2], v] w fun e w' => e = .returned (.bool (classedB s (namesL l) (getL l Idn.mainN))) ∧ Below w.heap.size w w' := by
  obtain ⟨o1, o2, rfl, rfl⟩ := hk.shape
  obtain ⟨A0, c0, rfl, hc0⟩ := SlV.shape hv
  have hk0 := hk
  have hkV := fun W (hW : Below w.heap.size w W) => hk.keep hW hh
  clear hk
  have hNm := fun W (hW : Below w.heap.size w W) => names_any _ l W (AttsV.mono (AttsV.keep hv hW) hW.size) hs7 hne
  have hGt := fun W (hW : Below w.heap.size w W) => get_any _ l (B Idn.mainN) W (AttsV.mono (AttsV.keep hv hW) hW.size) hs7 hne (by decide)
  have hnl := namesL_len hs7
  rw [Idn.L_B] at hGt
  have HR : Hid (classedB s (namesL l) (getL l Idn.mainN) = match clsGo s (namesL l) [Idn.mainN] (getL l Idn.mainN) with | none => false | some al => decide (0 < (getL l Idn.mainN).length) && !(namesL l).any (fun x => !al.contains x)) := rfl
  generalize classedB s (namesL l) (getL l Idn.mainN) = r at *
  generalize namesL l = nms at *
  generalize getL l Idn.mainN = vals at *
  go_enter Tryz.func100, Tryz.ntmps100
  go_wp2_with fail
  with_reducible refine gen1 (R := fun W => Calls Tryz.prog 66 _ W _) ?_
  intro W hbW hszW hc1 _
  have k0 : W.cell? ⟨w.heap.size, 0, none⟩ = some (.map o1) := hc1 0 _ rfl
  have k1 : W.cell? ⟨w.heap.size, 1, none⟩ = some (.map o2) := hc1 1 _ rfl
  clear hc1 hszW
  refine (hNm W hbW).mono ?_
  rintro e w1 ⟨v1, rfl, hown1, hb1⟩
  have hbw1 := hbW.trans (hb1.mono hbW.size)
  have hN1 : StrsV w1 w1.heap.size v1 nms := StrsV.of_own hown1
  obtain ⟨A1, c1, hv1, hc1⟩ := hN1.shape
  subst hv1
  replace k0 := cell_later hb1 k0
  replace k1 := cell_later hb1 k1
  clear hNm hown1
  go_wp2_with fail
  with_reducible refine genRB (R := fun W => Calls Tryz.prog 70 _ W _) ?_
  intro X hbX hszX hownX cp fp
  have hbwX := hbw1.trans (hbX.mono hbw1.size)
  refine (hGt X hbwX).mono ?_
  rintro e w2 ⟨A, kk, c, rfl, hval, hge, hb2⟩
  obtain ⟨A', c', ev, hcc⟩ := hval.shape
  injection ev with ev1 ev2 ev3
  subst ev2
  have hown2 : w2.ownsRow w1.heap.size 9 1 (.slice (some ⟨w1.heap.size, 0, none⟩) 1 1) [Idn.mainN].length ([Idn.mainN].map sv) := own_below hownX hb2
  replace cp := cell_later hb2 cp
  replace fp := frozen_later hb2 fp (by omega)
  have hb12 : Below w1.heap.size w1 w2 := hbX.trans (hb2.mono hbX.size)
  have hge2 : ∀ b off, A = some ⟨b, off, none⟩ → w1.heap.size + 2 ≤ b := fun b off e => by have := hge b off e; omega
  clear hGt hownX hge ev1 ev3 hbX hbwX hszX hcc
  go_wp2
  go_loopw [22] (fun i wr => ∃ (k : Nat) (u : Value) (al : List Bs), k ≤ vals.length ∧ i = .int .i64 k ∧ wr.cell? ⟨w1.heap.size + 1, 0, none⟩ = some u ∧ wr.frozen? ⟨w1.heap.size + 1, 0, none⟩ = false ∧ wr.ownsRow w1.heap.size 9 1 u al.length (al.map sv) ∧
    (∀ g, u.ownBlock = some g → g ≠ w1.heap.size + 1 ∧ ∀ b off, A = some ⟨b, off, none⟩ → b ≠ g) ∧ StrsV wr w2.heap.size (.slice A vals.length c) vals ∧ Below w1.heap.size w1 wr ∧ w2.heap.size ≤ wr.heap.size ∧ Hid (clsGo s nms [Idn.mainN] vals = clsGo s nms al (vals.drop k)) ∧ al.length ≤ 1 + k * 4096) (fun i _ => vals.length - (intOf i).toNat)
  case atStart => exact ⟨0, _, [Idn.mainN], Nat.zero_le _, rfl, cp, fp, hown2, fun g hg => by
      simp [Value.ownBlock] at hg
      subst hg
      exact ⟨by omega, fun b off e => by have := hge2 b off e; omega⟩, hval, hb12, Nat.le_refl _, rfl, Nat.le_refl _⟩
  case round =>
    obtain ⟨k, u, al, hk, rfl, cp, fp, hown, hsep, hvr, hbr, hszr, hinv, hal⟩ := hrel
    have hbwr := hbw1.trans (hbr.mono hbw1.size)
    replace k0 := (hbr.cell (p := ⟨w.heap.size, 0, none⟩) (World.block_lt_of_cell? _ _ k0)).trans k0
    replace k1 := (hbr.cell (p := ⟨w.heap.size, 1, none⟩) (World.block_lt_of_cell? _ _ k1)).trans k1
    obtain ⟨wo, hwo⟩ : ∃ wo : World, wo = wr := ⟨_, rfl⟩
    subst hwo
    by_cases hlt : k < vals.length
    · obtain ⟨b, off, hA, hbl, c0⟩ := StrsV.cell hvr hlt
      subst hA
      have hltI : (k : Int) < (vals.length : Int) := by omega
      have hsz := hgx vals[k] (List.getElem_mem hlt)
      have hF := fold_any (B vals[k]) wo (by rw [Idn.size_B]; omega)
      rw [Idn.L_B] at hF
      obtain ⟨s1, s2, s3⟩ := clsGo_step s nms al vals k hlt _ hinv.out
      have hfl := Idn.length_fold vals[k]
      generalize Idn.fold vals[k] = kk at *
      clear hinv
      go_wp2_with fail
      refine hF.mono ?_
      rintro e w3 ⟨rfl, hb3⟩
      have hbw3 := hbwr.trans (hb3.mono hbwr.size)
      obtain ⟨_, es, hm, hcls⟩ := hk0
      have hm3 := hm.keep hbw3
      obtain ⟨ua, ub, A3, k3, c3, A4, k4, c4, hua⟩ := hcls.Sh.lk (L (B kk))
      have hsome : (lk es (L (B kk))).isSome = clKey s kk := by rw [Idn.L_B]; exact clKey_lk hcls.K kk
      clear hcls hm hF
      replace k0 := cell_later hb3 k0
      replace k1 := cell_later hb3 k1
      cases hkey : clKey s kk
      · have HF : Hid (r = false) := by show _ = _; rw [HR.out, s1 hkey]
        rw [hkey] at hsome
        clear s1 s2 s3 hkey
        go_wp2_with (at_lookup; refine wpList_look w3 rfl _ _ 117 rfl 9 67 Tryz.underlying9 Tryz.underlying117 (zeroCL _) hm3 rfl (B kk) rfl hua hsome ?_)
        go_ret
        exact ⟨ret_bool (by rw [HF.out]), hbw3.alloc hbw3.size _⟩
      rw [hkey] at hsome
      have hMu := fun W hW => must_any _ _ s hi (B kk) W (hkV W hW) (Nat.le_trans hh hW.size) hd hs hbd (by rw [Idn.size_B]; omega)
      have hMa := fun W hW => may_any _ _ s hi (B kk) W (hkV W hW) (Nat.le_trans hh hW.size) hd hs hbd (by rw [Idn.size_B]; omega)
      have hml := mustL_len hbd kk
      have hal2 := mayL_len hbd kk
      rw [Idn.L_B] at hMu hMa
      generalize mustL s kk = mu at *
      generalize mayL s kk = ma at *
      replace s2 := s2 hkey
      replace s3 := s3 hkey
      clear s1 hkey
      have ba := (Below.refl w3.heap.size w3).alloc (Nat.le_refl _) (.cells #[.string ua, .string ub, .slice A3 k3 c3, .slice A4 k4 c4] 67)
      have k0a := cell_later ba k0
      have k1a := cell_later ba k1
      clear ba
      go_wp2_with (at_lookup; refine wpList_look w3 rfl _ _ 117 rfl 9 67 Tryz.underlying9 Tryz.underlying117 (zeroCL _) hm3 rfl (B kk) rfl hua hsome ?_)
      with_reducible refine gen1 (R := fun W => Calls Tryz.prog 164 _ W _) ?_
      intro W4 hbW4 hszW4 _ _
      have hbw4 := hbw3.trans (hbW4.mono hbw3.size)
      refine (hMu W4 hbw4).mono ?_
      rintro e w5 ⟨v5, rfl, hown5, hb5⟩
      have hb35 := hbW4.trans (hb5.mono hbW4.size)
      have hb05 : Below wo.heap.size wo w5 := hb3.trans (hb35.mono hb3.size)
      have hbw5 := hbwr.trans (hb05.mono hbwr.size)
      have hM5 : StrsV w5 w5.heap.size v5 mu := StrsV.of_own hown5
      obtain ⟨A5, c5, hv5, hc5⟩ := hM5.shape
      subst hv5
      replace k0 := cell_later hb35 k0
      replace k1 := cell_later hb35 k1
      replace fp := frozen_later hb05 fp (World.block_lt_of_cell? _ _ cp)
      replace cp := cell_later hb05 cp
      replace hown := own_below hown hb05
      replace hvr := SlV.keep hvr (hb05.mono hszr)
      replace hszr : w2.heap.size ≤ w5.heap.size := Nat.le_trans hszr hb05.size
      have hbr5 : Below w1.heap.size w1 w5 := hbr.trans (hb05.mono hbr.size)
      clear k0a k1a
      clear hMu hown5 hm3 hua hsome hb3 hbw3 hbW4 hszW4 hbw4 hb5 hb35 hbwr hbr c0 hb05
      go_upto_block 2 with fail
      go_cut [] (fun wx => Below w5.heap.size w5 wx ∧ Hid (mu.any (fun m => !nms.contains m) = false))
      case first =>
        go_wp2_with fail
        go_loopw [41] (fun i wr => ∃ j : Nat, j ≤ mu.length ∧ i = .int .i64 j ∧ Below w5.heap.size w5 wr ∧ Hid (mu.any (fun m => !nms.contains m) = (mu.drop j).any (fun m => !nms.contains m))) (fun i _ => mu.length - (intOf i).toNat)
        case atStart => exact ⟨0, Nat.zero_le _, rfl, Below.refl _ _, by show _ = _; simp⟩
        case round =>
          obtain ⟨j, hj, rfl, hbj, hinv⟩ := hrel
          by_cases hjl : j < mu.length
          · obtain ⟨b6, off6, rfl, hbl6, d0⟩ := StrsV.cell (SlV.keep hM5 hbj) hjl
            have hjI : (j : Int) < (mu.length : Int) := by omega
            have hbj1 := hbr5.trans (hbj.mono hbr5.size)
            have hCt := contains_any _ nms (B mu[j]) wr (SlV.mono (SlV.keep hN1 hbj1) hbj1.size) (by omega)
            obtain ⟨t1, t2⟩ := Idn.any_drop _ mu j hjl _ hinv.out
            rw [Idn.L_B] at hCt
            generalize nms.contains mu[j] = cb at *
            have S2 := Lib.hid s2
            clear hinv s2 s3
            cases cb
            · have HF : Hid (r = false) := by show _ = _; rw [HR.out, S2.out (t1 rfl)]
              clear t1 t2 S2
              go_wp2_with (go_at_call 140; refine hCt.mono ?_; rintro e w6 ⟨rfl, rfl⟩)
              go_ret
              exact ⟨ret_bool (by rw [HF.out]), hbw5.trans (hbj.mono hbw5.size)⟩
            · have HF : Hid (mu.any (fun m => !nms.contains m) = (mu.drop (j + 1)).any (fun m => !nms.contains m)) := t2 rfl
              clear t1 t2 S2
              go_wp2_with (go_at_call 140; refine hCt.mono ?_; rintro e w6 ⟨rfl, rfl⟩)
              go_roundw
              case rel => exact ⟨j + 1, by omega, by go_num, hbj, HF⟩
              case measure => simp [intOf]; omega
          · have hjI : ¬ (j : Int) < (mu.length : Int) := by omega
            have HF : Hid (mu.any (fun m => !nms.contains m) = false) := by show _ = _; rw [hinv.out, List.drop_eq_nil_of_le (by omega)]; rfl
            clear hinv s2 s3
            go_wp2_with fail
            go_meet
            exact ⟨hbj, HF⟩
      case rest =>
        obtain ⟨hbc, hany⟩ := hcut
        have HN : Hid (clsGo s nms [Idn.mainN] vals = clsGo s nms (al ++ ma) (vals.drop (k + 1))) := s3 hany.out
        clear s2 s3 hany
        replace hbc : Below w5.heap.size w5 wc.drew := hbc.drew
        have hbwc : Below w.heap.size w wc.drew := hbw5.trans (hbc.mono hbw5.size)
        have hMc := hMa wc.drew hbwc
        replace fp : wc.drew.frozen? ⟨w1.heap.size + 1, 0, none⟩ = false := frozen_later hbc fp (World.block_lt_of_cell? _ _ cp)
        replace cp : wc.drew.cell? ⟨w1.heap.size + 1, 0, none⟩ = some u := cell_later hbc cp
        replace k0 : wc.drew.cell? ⟨w.heap.size, 0, none⟩ = some (.map o1) := cell_later hbc k0
        replace k1 : wc.drew.cell? ⟨w.heap.size, 1, none⟩ = some (.map o2) := cell_later hbc k1
        replace hown : wc.drew.ownsRow w1.heap.size 9 1 u al.length (al.map sv) := own_below hown hbc
        replace hvr : StrsV wc.drew w2.heap.size (.slice (some ⟨b, off, none⟩) vals.length c) vals := SlV.keep hvr (hbc.mono hszr)
        have hszc : w2.heap.size ≤ wc.drew.heap.size := Nat.le_trans hszr hbc.size
        have hbrc : Below w1.heap.size w1 wc.drew := hbr5.trans (hbc.mono hbr5.size)
        have hpc : w1.heap.size + 1 < wc.drew.heap.size := World.block_lt_of_cell? _ _ cp
        clear hMa hbc hbr5 hbw5
        go_wp2_with fail
        go_region_law (first
          | (go_simp
             go_at_call 165
             refine hMc.mono ?_
             rintro e w6 ⟨v6, rfl, hown6m, hb6⟩
             have hmv := StrsV.of_own hown6m
             have cp6 := cell_later hb6 cp
             have fp6 := frozen_later hb6 fp hpc
             have hown6 := own_below hown hb6
             have hb6s : w1.heap.size ≤ w6.heap.size := Nat.le_trans hbrc.size hb6.size
             have hp6 : w1.heap.size + 1 < w6.heap.size := Nat.lt_of_lt_of_le hpc hb6.size
             go_wp2_with fail)
          | (refine step_appendS rfl _ _ 45 rfl w1.heap.size 9 Tryz.underlying45 info_str _ _ _ hown6 rfl _ ma _ hmv rfl (by omega) hb6s ?_
             intro v' w7 hown' hg' hat'
             obtain ⟨A9, c9, hv9⟩ := own_shape hown'
             subst hv9
             have st1 := grown_cell hg' cp6 (fun e => (hsep _ e.symm).1 rfl)
             have st2 := grown_frozen hg' hp6 fp6 (fun e => (hsep _ e.symm).1 rfl)))
        all_goals
          have hsz6 : w2.heap.size ≤ w6.heap.size := Nat.le_trans hszc hb6.size
          have hsep' : ∀ g, (Value.slice A9 (al.length + ma.length) c9).ownBlock = some g → g ≠ w1.heap.size + 1 ∧ ∀ b' off', some (⟨b, off, none⟩ : Addr) = some ⟨b', off', none⟩ → b' ≠ g := fun g hg => by
            rcases hat' with hat | hat
            · exact hsep g (hat ▸ hg)
            · rw [hat] at hg
              injection hg with hg
              refine ⟨by omega, fun b' off' e => ?_⟩
              injection e with e
              injection e with e
              omega
          have hnO := ownsRow_setCell_other hown' (a := ⟨w1.heap.size + 1, 0, none⟩) (fun e => (hsep' _ e).1 rfl) (Value.slice A9 (al.length + ma.length) c9)
          have hnV := StrsV.put (p := w1.heap.size + 1) (i := 0) (StrsV.grown (SlV.keep hvr (hb6.mono hszc)) hg' (fun b' off' e e2 => (hsep b' e2).2 b' off' e rfl) hsz6) (fun b' off' e => by have := hge2 b' off' e; omega) (Value.slice A9 (al.length + ma.length) c9)
          have hbf := ((hbrc.trans (hb6.mono hbrc.size)).grown hg' hb6s (fun g hg => (hown6.lt g hg).1)).setCell (p := ⟨w1.heap.size + 1, 0, none⟩) (Nat.le_succ _) (Value.slice A9 (al.length + ma.length) c9)
          have hn1 : (w7.setCell ⟨w1.heap.size + 1, 0, none⟩ (Value.slice A9 (al.length + ma.length) c9)).cell? ⟨w1.heap.size + 1, 0, none⟩ = some (Value.slice A9 (al.length + ma.length) c9) := by go_simp
          have hn2 : (w7.setCell ⟨w1.heap.size + 1, 0, none⟩ (Value.slice A9 (al.length + ma.length) c9)).frozen? ⟨w1.heap.size + 1, 0, none⟩ = false := by go_simp
          have hszn : w2.heap.size ≤ (w7.setCell ⟨w1.heap.size + 1, 0, none⟩ (Value.slice A9 (al.length + ma.length) c9)).heap.size := by
            have := hg'.size
            simp; omega
          have hnP : (w7.setCell ⟨w1.heap.size + 1, 0, none⟩ (Value.slice A9 (al.length + ma.length) c9)).ownsRow w1.heap.size 9 1 (Value.slice A9 (al.length + ma.length) c9) (al ++ ma).length ((al ++ ma).map sv) := by
            rw [List.length_append, List.map_append]; exact hnO
          clear hnO
          clear hown hown' hown6 hown6m hvr hmv hg' hat' st1 st2 cp6 fp6 cp fp
          go_wp2_with fail
          go_roundw
          case rel => exact ⟨k + 1, _, al ++ ma, by omega, by go_num, hn1, hn2, hnP, hsep', hnV, hbf, hszn, HN, by rw [List.length_append]; omega⟩
          case measure => simp [intOf]; omega
    · have hltI : ¬ (k : Int) < (vals.length : Int) := by omega
      have hH := hasF_any 167 #[.pointer (some ⟨w1.heap.size + 1, 0, none⟩)] fn_classed1 (fun x => !al.contains x) (.slice A1 nms.length c1) nms wo (SlV.mono (SlV.keep hN1 hbr) hbr.size) (by omega)
        (fun W x _ hbW => classed1_any x _ u al W (cell_later hbW cp) (StrsV.of_own (own_below hown hbW)) (by omega))
      have HF : Hid (r = (decide (0 < vals.length) && !nms.any (fun x => !al.contains x))) := by
        show _ = _
        rw [HR.out, hinv.out, List.drop_eq_nil_of_le (by omega)]
        rfl
      generalize nms.any (fun x => !al.contains x) = bb at *
      clear hinv
      by_cases hp : 0 < vals.length
      · have hpI : (0 : Int) < (vals.length : Int) := by omega
        have HF2 : Hid (r = !bb) := by show _ = _; rw [HF.out]; simp [hp]
        go_wp2_with (go_at_call 166; refine hH.mono ?_; rintro e w9 ⟨rfl, hb9⟩)
        go_ret
        exact ⟨ret_bool (by rw [HF2.out]), hbwr.trans (hb9.mono hbwr.size)⟩
      · have hpI : ¬ (0 : Int) < (vals.length : Int) := by omega
        have HF2 : Hid (r = false) := by show _ = _; rw [HF.out]; simp [hp]
        go_wp2
        go_ret
        exact ⟨ret_bool (by rw [HF2.out]), hbwr⟩
end Go.Proofs.YtoopoglkeeoamaaGreatDoor
/- schema: Valid. -/
namespace Go.Proofs.YtoopoglkeeoamaaGreatDoor
open Go.RowKit Go.Sort
open Idn (L B Bs drop_L take_L size_L)

theorem atts_zero : ∀ (l prev : List Idn.Att), Idn.attsErr prev l = 0 → ∀ a ∈ l, a.vals.length ≠ 0 ∧ a.vals.length ≤ 16
  | [], _, _ => by simp
  | b :: l, prev, h => by
    rw [Idn.attsErr] at h
    by_cases hb : Idn.attErr prev b = 0
    · rw [if_neg (by simpa using hb)] at h
      intro a ha
      rcases List.mem_cons.1 ha with rfl | ha
      · unfold Idn.attErr at hb
        split at hb
        · cases hb
        · split at hb
          · cases hb
          · split at hb
            · cases hb
            · split at hb
              · cases hb
              · rename_i h1 h2
                exact ⟨h1, by omega⟩
      · exact atts_zero l _ h a ha
    · rw [if_pos (by simpa using hb)] at h
      exact absurd h hb
theorem aCheck_zero {l : List Idn.Att} (h : Idn.aCheck l = 0) : l.length ≤ 32 ∧ ∀ a ∈ l, a.vals.length ≠ 0 ∧ a.vals.length ≤ 16 := by
  unfold Idn.aCheck at h
  split at h
  · cases h
  · exact ⟨by omega, atts_zero l [] h⟩
def vGo (s : Idn.Sch) : List Idn.Att → Int
  | [] => 0
  | a :: l => if attrE s a.name a.vals != 0 then attrE s a.name a.vals else vGo s l
def sValid (s : Idn.Sch) (l : List Idn.Att) : Int :=
  if Idn.aCheck l != 0 then Idn.aCheck l else if vGo (sound s) l != 0 then vGo (sound s) l else if !classedB (sound s) (namesL l) (getL l Idn.mainN) then 9 else 0
theorem vGo_step (s : Idn.Sch) (l : List Idn.Att) (k : Nat) (hk : k < l.length) (r : Int) (h : r = vGo s (l.drop k)) :
    (attrE s l[k].name l[k].vals ≠ 0 → r = attrE s l[k].name l[k].vals) ∧ (attrE s l[k].name l[k].vals = 0 → r = vGo s (l.drop (k + 1))) := by
  rw [List.drop_eq_getElem_cons hk, vGo] at h
  refine ⟨fun hn => ?_, fun hn => ?_⟩
  · rw [h, if_pos (by simpa using hn)]
  · rw [h, if_neg (by simpa using hn)]
/-- attributes of a bounded size -/
def ASm5 (l : List Idn.Att) : Prop := ∀ a ∈ l, a.name.length ≤ 1000000000 ∧ ∀ x ∈ a.vals, x.length ≤ 100000000
set_option maxHeartbeats 2000000 in
set_option maxRecDepth 100000 in
theorem valid_any (u : Value) (s : Idn.Sch) (nm : ByteArray) (va : Value) (l : List Idn.Att) (w : World) (hu : SchV w w.heap.size u s) (hs : SSm s) (hE : Env w) (hU : EnvU w) (hv : AttsV w w.heap.size va l) (hsm : ASm l) (hs5 : ASm5 l) :
    Calls Tryz.prog 52 #[u, .agg #[.string nm, va]] w fun e w' => e = .returned (.int .i64 (sValid s l)) ∧ Below w.heap.size w w' := by
  have hLk := fun W (hW : Below w.heap.size w W) => look_any u s W (SchV.mono (SchV.keep hu hW) hW.size) hs
  have hCk := fun W (hW : Below w.heap.size w W) => attsCheck_any va l W (AttsV.mono (AttsV.keep hv hW) hW.size) hsm
  obtain ⟨a, b, rfl, hT, hC⟩ := hu
  obtain ⟨A, ca, rfl, hca⟩ := SlV.shape hT
  obtain ⟨A', cb, rfl, hcb⟩ := SlV.shape hC
  obtain ⟨A0, c0, rfl, hc0⟩ := SlV.shape hv
  clear hT hC
  have HR : Hid (sValid s l = if Idn.aCheck l != 0 then Idn.aCheck l else if vGo (sound s) l != 0 then vGo (sound s) l else if !classedB (sound s) (namesL l) (getL l Idn.mainN) then 9 else 0) := rfl
  generalize sValid s l = r at *
  have hz := fun h => aCheck_zero (l := l) h
  generalize Idn.aCheck l = ck at *
  go_enter Tryz.func52, Tryz.ntmps52
  go_wp2_with fail
  with_reducible refine gen2 (R := fun W => Calls Tryz.prog 41 _ W _) ?_
  intro W hbW hszW hc1 hc2
  have q0 : W.cell? ⟨w.heap.size, 0, none⟩ = some (.slice A s.types.length ca) := hc1 0 _ rfl
  have q1 : W.cell? ⟨w.heap.size, 1, none⟩ = some (.slice A' s.classes.length cb) := hc1 1 _ rfl
  have e1 : W.cell? ⟨w.heap.size + 1, 1, none⟩ = some (.slice A0 l.length c0) := hc2 1 _ rfl
  clear hc1 hc2 hszW
  refine (hCk W hbW).mono ?_
  rintro e w1 ⟨rfl, hb1⟩
  have hbw1 := hbW.trans (hb1.mono hbW.size)
  replace q0 := cell_later hb1 q0
  replace q1 := cell_later hb1 q1
  replace e1 := cell_later hb1 e1
  clear hCk
  by_cases hck : ck = 0
  · have ck0 : (ck == 0) = true := by simpa using hck
    have HR : Hid (r = if vGo (sound s) l != 0 then vGo (sound s) l else if !classedB (sound s) (namesL l) (getL l Idn.mainN) then 9 else 0) := by show _ = _; rw [HR.out, hck]; rfl
    obtain ⟨hl32, hv16⟩ := hz hck
    clear hz hck
    go_wp2_with fail
    refine (hLk w1 hbw1).mono ?_
    rintro e w2 ⟨m1, m2, rfl, hb2, hk⟩
    have hbw2 := hbw1.trans (hb2.mono hbw1.size)
    obtain ⟨o1, o2, rfl, rfl⟩ := hk.shape
    replace e1 := cell_later hb2 e1
    clear hLk q0 q1
    have hCl := fun W (hW : Below w2.heap.size w2 W) => classed_any (.map o1) (.map o2) (sound s) w1.heap.size (.slice A0 l.length c0) l W (hk.keep hW hb2.size) (Nat.le_trans hb2.size hW.size) (dec_sound s) (ssm_sound hs) (bd_sound s)
      (AttsV.mono (AttsV.keep hv (hbw2.trans (hW.mono hbw2.size))) (hbw2.trans (hW.mono hbw2.size)).size) ⟨by omega, fun a ha => ⟨(hs5 a ha).1, by have := (hv16 a ha).2; omega, fun x hx => by have := (hs5 a ha).2 x hx; omega⟩⟩ (fun a ha => (hv16 a ha).1)
      (get_len (fun a ha => (hv16 a ha).2) (by omega) _) (get_all (fun a ha x hx => (hs5 a ha).2 x hx) _)
    generalize classedB (sound s) (namesL l) (getL l Idn.mainN) = cb at *
    have hm2 := hk.1
    clear hk
    have e1a := cell_later ((Below.refl w2.heap.size w2).alloc (Nat.le_refl _) (.cells #[.map o1, .map o2] 119)) e1
    go_upto_block 0 with fail
    with_reducible refine gen1 (R := fun W => Code.wp Tryz.prog _ _ _ W) ?_
    intro W3 hbW3 hszW3 hc3 _
    have k0 : W3.cell? ⟨w2.heap.size, 0, none⟩ = some (.map o1) := hc3 0 _ rfl
    have k1 : W3.cell? ⟨w2.heap.size, 1, none⟩ = some (.map o2) := hc3 1 _ rfl
    replace e1 := cell_later hbW3 e1
    have hbw3 := hbw2.trans (hbW3.mono hbw2.size)
    clear hc3 hszW3 e1a
    go_wp2_with fail
    go_loopw [21] (fun i wr => ∃ k : Nat, k ≤ l.length ∧ i = .int .i64 k ∧ Below W3.heap.size W3 wr ∧ Hid (vGo (sound s) l = vGo (sound s) (l.drop k))) (fun i _ => l.length - (intOf i).toNat)
    case atStart => exact ⟨0, Nat.zero_le _, rfl, Below.refl _ _, by show _ = _; simp⟩
    case round =>
      obtain ⟨k, hkl, rfl, hbr, hinv⟩ := hrel
      have hbwr := hbw3.trans (hbr.mono hbw3.size)
      have hb2r := hbW3.trans (hbr.mono hbW3.size)
      replace k0 := cell_later hbr k0
      replace k1 := cell_later hbr k1
      replace e1 := cell_later hbr e1
      obtain ⟨wo, hwo⟩ : ∃ wo : World, wo = wr := ⟨_, rfl⟩
      subst hwo
      by_cases hlt : k < l.length
      · obtain ⟨b, off, vk, rfl, hbl, c0, c1, hvk⟩ := AttsV.cell (AttsV.keep hv hbwr) hlt
        obtain ⟨Ak, ck2, rfl, hck2⟩ := SlV.shape hvk
        have hltI : (k : Int) < (l.length : Int) := by omega
        have hmem := List.getElem_mem hlt
        obtain ⟨n9, v9⟩ := hs5 _ hmem
        have h16 := (hv16 _ hmem).2
        obtain ⟨s1, s2⟩ := vGo_step (sound s) l k hlt _ hinv.out
        have hAt := fun W (hW : Below wo.heap.size wo W) => attribute_any (.map o1) (.map o2) (sound s) (B l[k].name) (.slice Ak l[k].vals.length ck2) l[k].vals W (hm2.keep (hb2r.trans (hW.mono hb2r.size))) ⟨o2, rfl⟩
          (SlV.mono (SlV.keep hvk (hW.mono hbwr.size)) (Nat.le_trans hbwr.size hW.size)) (hE.keep (hbwr.trans (hW.mono hbwr.size))) (hU.keep (hbwr.trans (hW.mono hbwr.size))) (by rw [Idn.size_B]; omega) (by omega) v9
        rw [Idn.L_B] at hAt
        generalize attrE (sound s) l[k].name l[k].vals = ae at *
        have ba := (Below.refl wo.heap.size wo).alloc (Nat.le_refl _) (.cells #[.string (B l[k].name), .slice Ak l[k].vals.length ck2] 48)
        have k0a := cell_later ba k0
        have k1a := cell_later ba k1
        clear ba hinv hvk n9 v9
        by_cases hae : ae = 0
        · have ae0 : (ae == 0) = true := by simpa using hae
          have HF : Hid (vGo (sound s) l = vGo (sound s) (l.drop (k + 1))) := s2 hae
          clear s1 s2 hae
          go_wp2_with fail
          with_reducible refine gen1 (R := fun W => Calls Tryz.prog 99 _ W _) ?_
          intro W5 hbW5 _ _ _
          refine (hAt W5 hbW5).mono ?_
          rintro e w6 ⟨rfl, hb6⟩
          clear k0a k1a hAt
          go_wp2_with fail
          go_roundw
          case rel => exact ⟨k + 1, by omega, by go_num, hbr.trans ((hbW5.trans (hb6.mono hbW5.size)).mono hbr.size), HF⟩
          case measure => simp [intOf]; omega
        · have ae0 : (ae == 0) = false := by simpa using hae
          have HF : Hid (r = ae) := by show _ = _; rw [HR.out, s1 hae, if_pos (by simpa using hae)]
          clear s1 s2 hae
          go_wp2_with fail
          with_reducible refine gen1 (R := fun W => Calls Tryz.prog 99 _ W _) ?_
          intro W5 hbW5 _ _ _
          refine (hAt W5 hbW5).mono ?_
          rintro e w6 ⟨rfl, hb6⟩
          clear k0a k1a hAt
          go_wp2_with fail
          go_ret
          exact ⟨ret_int (by rw [HF.out]), hbwr.trans ((hbW5.trans (hb6.mono hbW5.size)).mono hbwr.size)⟩
      · have hltI : ¬ (k : Int) < (l.length : Int) := by omega
        have hC := hCl wo hb2r
        have HR : Hid (r = if !cb then 9 else 0) := by
          show _ = _
          rw [HR.out, hinv.out, List.drop_eq_nil_of_le (by omega)]; rfl
        clear hinv hCl
        cases cb
        · have HF : Hid (r = 9) := HR
          go_wp2_with fail
          refine hC.mono ?_
          rintro e w6 ⟨rfl, hb6⟩
          go_wp2_with fail
          go_ret
          exact ⟨ret_int (by rw [HF.out]), hbwr.trans (hb6.mono hbwr.size)⟩
        · have HF : Hid (r = 0) := HR
          go_wp2_with fail
          refine hC.mono ?_
          rintro e w6 ⟨rfl, hb6⟩
          go_wp2_with fail
          go_ret
          exact ⟨ret_int (by rw [HF.out]), hbwr.trans (hb6.mono hbwr.size)⟩
  · have ck0 : (ck == 0) = false := by simpa using hck
    have HF : Hid (r = ck) := by show _ = _; rw [HR.out, if_pos (by simpa using hck)]
    clear hz hck
    go_wp2_with fail
    go_ret
    exact ⟨ret_int (by rw [HF.out]), hbw1⟩
end Go.Proofs.YtoopoglkeeoamaaGreatDoor
/- law07: small. -/
namespace Go.Proofs.YtoopoglkeeoamaaGreatDoor
open Go.RowKit Go.Sort
open Idn (L B Bs drop_L take_L size_L)

def personN : Bs := [112, 101, 114, 115, 111, 110]
def staffN : Bs := [115, 116, 97, 102, 102]
def cnN : Bs := [99, 110]
def ageN : Bs := [97, 103, 101]
def activeN : Bs := [97, 99, 116, 105, 118, 101]
def smallS : Idn.Sch := ⟨[⟨Idn.mainN, 1, false⟩, ⟨cnN, 1, false⟩, ⟨ageN, 3, true⟩, ⟨activeN, 5, false⟩], [⟨personN, [], [cnN], [ageN]⟩, ⟨staffN, personN, [], [activeN]⟩]⟩
theorem litR (w : World) (cs : Array Value) (n size : Nat) (e : TypeId) (p : Nat) (hp : w.heap.size = p) (hm : n ≤ maxLen) (hs : cs.size = n * size) : (w.alloc (.cells cs e)).ownsRow 0 e size (.slice (some ⟨p, 0, none⟩) n n) n cs.toList := by
  subst hp
  exact World.ownsRow_lit w cs n (Nat.zero_le _) hm hs
theorem genW {R Q : World → Prop} {W : World} (hQ : Q W) (h : ∀ W, Q W → R W) : R W := h W hQ
end Go.Proofs.YtoopoglkeeoamaaGreatDoor
/- The values of the small case, reckoned. -/
namespace Go.Proofs.YtoopoglkeeoamaaGreatDoor
open Go.RowKit Go.Sort
open Idn (L B Bs)
theorem ev_check : Idn.sCheck smallS = 0 := by kernel_rfl
theorem ev_sound : sound smallS = smallS := by rw [sound, if_pos ev_check]
theorem ev_n1 : kNorm smallS cnN [65, 110, 110, 32, 32, 76, 69, 69] = (⟨cnN, 1, false⟩, [97, 110, 110, 32, 108, 101, 101], 0) := by kernel_rfl
theorem ev_n2 : kNorm smallS ageN [48, 48, 55] = (⟨ageN, 3, true⟩, [55], 0) := by kernel_rfl
def textB : Bs := [116, 121, 112, 101, 32, 99, 108, 97, 115, 115, 32, 116, 101, 120, 116, 10, 116, 121, 112, 101, 32, 99, 110, 32, 116, 101, 120, 116, 10, 116, 121, 112, 101, 32, 97, 103, 101, 32, 105, 110, 116, 32, 115, 105, 110, 103, 108, 101, 10, 116, 121, 112, 101, 32, 97, 99, 116, 105, 118, 101, 32, 98, 111, 111, 108, 10, 99, 108, 97, 115, 115, 32, 112, 101, 114, 115, 111, 110, 32, 45, 32, 99, 110, 32, 97, 103, 101, 10, 99, 108, 97, 115, 115, 32, 115, 116, 97, 102, 102, 32, 112, 101, 114, 115, 111, 110, 32, 45, 32, 97, 99, 116, 105, 118, 101, 10]
theorem ev_text : Idn.sText smallS = (textB, 0) := by kernel_rfl
theorem ev_must : mustL smallS staffN = [cnN] := by kernel_rfl
theorem srt3 : sorted [cnN, activeN, ageN] = [activeN, ageN, cnN] := by
  unfold sorted
  have e1 : decide (cnN ≤ activeN) = false := by decide
  have e2 : decide (activeN ≤ ageN) = true := by decide
  have e3 : decide (cnN ≤ ageN) = false := by decide
  simp [List.mergeSort, List.MergeSort.Internal.splitInTwo, List.merge, e1, e2, e3, -decide_eq_true_eq, -decide_eq_false_iff_not]
theorem may3 : (mustL smallS staffN ++ ((Idn.lin smallS staffN).filterMap (smallS.classes[·]?)).flatMap (·.may)).map Idn.lower = [cnN, activeN, ageN] := by kernel_rfl
theorem cmp3 : Lib.compact [activeN, ageN, cnN] = [activeN, ageN, cnN] := by kernel_rfl
theorem ev_may : mayL smallS staffN = [activeN, ageN, cnN] := by
  unfold mayL merged
  rw [may3, srt3, cmp3]
def annA : List Idn.Att := [⟨Idn.mainN, [personN]⟩, ⟨cnN, [[65, 110, 110]]⟩]
def twoL : List Idn.Att := ⟨ageN, [[55], [56]]⟩ :: annA
theorem grpA : (Idn.grp [] annA).map Idn.normA = annA := by kernel_rfl
theorem aSrt : Idn.aSorted annA = annA := by
  unfold Idn.aSorted
  rw [grpA]
  have e1 : decide (Idn.mainN ≤ cnN) = true := by decide
  simp [List.mergeSort, List.MergeSort.Internal.splitInTwo, List.merge, annA, e1, -decide_eq_true_eq]
theorem ev_names : namesL annA = [Idn.mainN, cnN] := by
  unfold namesL
  rw [aSrt]; rfl
theorem ev_get : getL annA Idn.mainN = [personN] := by
  unfold getL
  rw [aSrt]; kernel_rfl
theorem may2 : (mustL smallS personN ++ ((Idn.lin smallS personN).filterMap (smallS.classes[·]?)).flatMap (·.may)).map Idn.lower = [cnN, ageN] := by kernel_rfl
theorem srt2 : sorted [cnN, ageN] = [ageN, cnN] := by
  unfold sorted
  have e1 : decide (cnN ≤ ageN) = false := by decide
  simp [List.mergeSort, List.MergeSort.Internal.splitInTwo, List.merge, e1, -decide_eq_true_eq, -decide_eq_false_iff_not]
theorem ev_may2 : mayL smallS personN = [ageN, cnN] := by
  unfold mayL merged
  rw [may2, srt2]
  kernel_rfl
theorem ev_cl : classedB smallS [Idn.mainN, cnN] [personN] = true := by
  have h0 : Idn.fold personN = personN := by kernel_rfl
  have h1 : clKey smallS personN = true := by kernel_rfl
  have h2 : mustL smallS personN = [cnN] := by kernel_rfl
  unfold classedB clsGo clsGo
  rw [h0, h1, h2, ev_may2]
  decide
theorem ev_a1 : Idn.aCheck annA = 0 := by kernel_rfl
theorem ev_g1 : vGo smallS annA = 0 := by kernel_rfl
theorem ev_v1 : sValid smallS annA = 0 := by
  unfold sValid
  rw [ev_a1, ev_sound, ev_g1, ev_names, ev_get, ev_cl]
  rfl
theorem ev_a2 : Idn.aCheck twoL = 0 := by kernel_rfl
theorem ev_g2 : vGo smallS twoL = 9 := by kernel_rfl
theorem ev_v2 : sValid smallS twoL = 9 := by
  unfold sValid
  rw [ev_a2, ev_sound, ev_g2]
  rfl
theorem small_ssm : SSm smallS := by unfold SSm TSm CSm Sm smallS; decide
end Go.Proofs.YtoopoglkeeoamaaGreatDoor
/- law07: alive. -/
namespace Go.Proofs.YtoopoglkeeoamaaGreatDoor
open Go.RowKit Go.Sort
open Idn (L B Bs drop_L take_L size_L)

/-- the small schema in memory, and what the calls on it return -/
def Sm7 (w : World) (u : Value) : Prop := SchV w w.heap.size u smallS ∧ Env w ∧ EnvU w
theorem Sm7.keep {w w' : World} {u : Value} (h : Sm7 w u) (hb : Below w.heap.size w w') : Sm7 w' u := ⟨SchV.mono (SchV.keep h.1 hb) hb.size, h.2.1.keep hb, h.2.2.keep hb⟩
end Go.Proofs.YtoopoglkeeoamaaGreatDoor
/- law07: alive, walked. -/
namespace Go.Proofs.YtoopoglkeeoamaaGreatDoor
open Go.RowKit Go.Sort
open Idn (L B Bs drop_L take_L size_L)
end Go.Proofs.YtoopoglkeeoamaaGreatDoor
/- law07: SchemaChecks, walked. -/
namespace Go.Proofs.YtoopoglkeeoamaaGreatDoor
open Go.RowKit Go.Sort
open Idn (L B Bs drop_L take_L size_L)
end Go.Proofs.YtoopoglkeeoamaaGreatDoor
/- Rows of attributes that a call has laid: with values of the call's own, or with values laid before. -/
namespace Go.Proofs.YtoopoglkeeoamaaGreatDoor
open Go.RowKit Go.Sort
open Idn (L B Bs drop_L take_L size_L)
def AttRow (w : World) (base : Nat) (v : Value) (ps : List (Idn.Att × Value)) : Prop :=
  w.ownsRow base 48 2 v ps.length (rowA ps) ∧ ∀ p ∈ ps, w.ownsRow base 9 1 p.2 p.1.vals.length (p.1.vals.map sv)
theorem rowA_snoc (ps : List (Idn.Att × Value)) (p : Idn.Att × Value) : rowA (ps ++ [p]) = rowA ps ++ [sv p.1.name, p.2] := by unfold rowA; rw [List.flatMap_append]; rfl
theorem AttRow.nil (w : World) (base : Nat) : AttRow w base (.slice none 0 0) [] := ⟨World.ownsRow_nil _ _ _ _, by simp⟩
theorem AttRow.keep {w w' : World} {base : Nat} {v : Value} {ps : List (Idn.Att × Value)} (h : AttRow w base v ps) (hb : Below w.heap.size w w') : AttRow w' base v ps :=
  ⟨own_below h.1 hb, fun p hp => own_below (h.2 p hp) hb⟩
theorem AttRow.push {w w' : World} {base : Nat} {v v' a : Value} {ps : List (Idn.Att × Value)} {x : Idn.Att} (h : AttRow w base v ps) (ha : w.ownsRow base 9 1 a x.vals.length (x.vals.map sv))
    (hown : w'.ownsRow base 48 2 v' (ps.length + 1) (rowA ps ++ [sv x.name, a])) (hg : w.grownBy w' v.ownBlock) : AttRow w' base v' (ps ++ [(x, a)]) := by
  refine ⟨by rw [List.length_append, rowA_snoc]; exact hown, fun p hp => ?_⟩
  rcases List.mem_append.1 hp with hp | hp
  · exact own_kept (h.2 p hp) hg fun g h1 h2 => own_apart h.1 (h.2 p hp) (by decide) g h2 h1
  · simp at hp; subst hp
    exact own_kept ha hg fun g h1 h2 => own_apart h.1 ha (by decide) g h2 h1
theorem AttRow.low {w : World} {base b : Nat} {v : Value} {ps : List (Idn.Att × Value)} (h : AttRow w base v ps) (hb : b ≤ base) : AttRow w b v ps :=
  ⟨own_base h.1 hb, fun p hp => own_base (h.2 p hp) hb⟩
theorem row_atts {w : World} {base : Nat} {v : Value} {ps : List (Idn.Att × Value)} {l : List Idn.Att} (h0 : w.ownsRow base 48 2 v ps.length (rowA ps)) (h2 : ∀ p ∈ ps, StrsV w w.heap.size p.2 p.1.vals) (hl : ps.map (·.1) = l) : AttsV w w.heap.size v l := by
  subst hl
  rw [show ps.length = (ps.map (·.1)).length by simp] at h0
  refine SlV.own h0 fun i x hx => ?_
  rw [List.getElem?_map] at hx
  obtain ⟨p, hp, rfl⟩ := Option.map_eq_some_iff.1 hx
  obtain ⟨e1, e2⟩ := rowA_at ps i p hp
  refine ⟨[sv p.1.name, p.2], rfl, ⟨p.2, rfl, h2 p (List.mem_of_getElem? hp)⟩, fun j u hj => ?_⟩
  match j, hj with
  | 0, hj => simp at hj; subst hj; exact e1
  | 1, hj => simp at hj; subst hj; exact e2
theorem AttRow.atts {w : World} {base : Nat} {v : Value} {ps : List (Idn.Att × Value)} {l : List Idn.Att} (h : AttRow w base v ps) (hl : ps.map (·.1) = l) : AttsV w w.heap.size v l :=
  row_atts h.1 (fun p hp => StrsV.of_own (h.2 p hp)) hl
end Go.Proofs.YtoopoglkeeoamaaGreatDoor
/- identityref06: Sorted. -/
namespace Go.Proofs.YtoopoglkeeoamaaGreatDoor
open Go.RowKit Go.Sort
open Idn (L B Bs drop_L take_L size_L)
def PairAt (X : World) (p : Nat) (a b : Value) : Prop :=
  (X.cell? ⟨p, 0, none⟩ = some a ∧ X.cell? ⟨p, 1, none⟩ = some b) ∧ (X.frozen? ⟨p, 0, none⟩ = false ∧ X.frozen? ⟨p, 1, none⟩ = false) ∧ p < X.heap.size
theorem PairAt.keep {X Y : World} {p : Nat} {a b : Value} (h : PairAt X p a b) {lo : Nat} (hb : Below lo X Y) (hp : p < lo) : PairAt Y p a b := by
  obtain ⟨⟨h0, h1⟩, ⟨g0, g1⟩, hl⟩ := h
  exact ⟨⟨(hb.cell (p := ⟨p, 0, none⟩) hp).trans h0, (hb.cell (p := ⟨p, 1, none⟩) hp).trans h1⟩, ⟨(hb.frozen (p := ⟨p, 0, none⟩) hp).trans g0, (hb.frozen (p := ⟨p, 1, none⟩) hp).trans g1⟩, Nat.lt_of_lt_of_le hl hb.size⟩
theorem PairAt.put {X : World} {p : Nat} {a b : Value} (h : PairAt X p a b) (c : Value) : PairAt (X.setCell ⟨p, 1, none⟩ c) p a c := by
  obtain ⟨⟨h0, h1⟩, ⟨g0, g1⟩, hl⟩ := h
  exact ⟨⟨by simp [go_sem, h0, h1], by simp [go_sem, h0, h1]⟩, ⟨by simp [g0], by simp [g1]⟩, by simpa using hl⟩
theorem insAll_snoc (xs : List Bs) (n : Bs) : Idn.insAll (xs ++ [n]) = Idn.insS n (Idn.insAll xs) := by unfold Idn.insAll; rw [List.foldl_append]; rfl
theorem insAll_app (xs ys : List Bs) (n : Bs) : Idn.insAll (xs ++ (ys ++ [n])) = Idn.insS n (Idn.insAll (xs ++ ys)) := by rw [← List.append_assoc, insAll_snoc]
theorem foldl_ins_len : ∀ (l acc : List Bs), (l.foldl (fun a n => Idn.insS n a) acc).length ≤ acc.length + l.length
  | [], acc => by simp
  | n :: l, acc => by
    have h1 := foldl_ins_len l (Idn.insS n acc)
    have h2 := insS_len n acc
    simp only [List.foldl_cons, List.length_cons]
    omega
theorem insAll_len (l : List Bs) : (Idn.insAll l).length ≤ l.length := by
  have := foldl_ins_len l []
  simpa [Idn.insAll] using this
theorem lows_take (l : List Idn.Att) (k : Nat) (hk : k < l.length) : Idn.lows (l.take (k + 1)) = Idn.lows (l.take k) ++ (if 0 < l[k].vals.length then [Idn.lower l[k].name] else []) := by
  rw [List.take_succ_eq_append_getElem hk]
  unfold Idn.lows
  rw [List.filter_append, List.map_append]
  by_cases h : 0 < l[k].vals.length
  · rw [if_pos h, List.filter_cons_of_pos (by simpa using h)]; rfl
  · rw [if_neg h, List.filter_cons_of_neg (by simpa using h)]; rfl
theorem vals_take (l : List Idn.Att) (n : Bs) (k : Nat) (hk : k < l.length) : Idn.valsOf (l.take (k + 1)) n = Idn.valsOf (l.take k) n ++ (if Idn.lower l[k].name = n then l[k].vals else []) := by
  rw [List.take_succ_eq_append_getElem hk]
  unfold Idn.valsOf
  rw [List.filter_append, List.flatMap_append]
  by_cases h : Idn.lower l[k].name = n
  · rw [if_pos h, List.filter_cons_of_pos (by simpa using h)]; simp
  · rw [if_neg h, List.filter_cons_of_neg (by simpa using h)]; rfl
theorem lows_len (l : List Idn.Att) : (Idn.lows l).length ≤ l.length := by
  unfold Idn.lows
  rw [List.length_map]
  exact List.length_filter_le _ _
theorem vals_len {l : List Idn.Att} {c : Nat} (h : ∀ a ∈ l, a.vals.length ≤ c) (n : Bs) : (Idn.valsOf l n).length ≤ l.length * c := by
  unfold Idn.valsOf
  refine Nat.le_trans (flat_len (·.vals) c _ fun a ha => h a (List.mem_filter.1 ha).1) ?_
  exact Nat.mul_le_mul_right _ (List.length_filter_le _ _)
theorem insAll_pw (l : List Bs) : (Idn.insAll l).Pairwise (· < ·) := Idn.insAll_lt l
set_option maxHeartbeats 4000000 in
set_option maxRecDepth 100000 in
theorem r_Sorted_any (v : Value) (l : List Idn.Att) (w : World) (hv : AttsV w w.heap.size v l) (hs : Idn.ASm7 l) :
    Calls Tryz.prog 57 #[v] w fun e w' => ∃ v' ps, e = .returned v' ∧ AttRow w' w.heap.size v' ps ∧ ps.map (·.1) = Idn.rSorted l ∧ Below w.heap.size w w' := by
  obtain ⟨A, c, rfl, hc⟩ := SlV.shape hv
  have hl1 := hs.1
  have hnl : (Idn.insAll (Idn.lows l)).length ≤ 1000 := Nat.le_trans (insAll_len _) (Nat.le_trans (lows_len l) (Nat.le_trans hl1 (by decide)))
  go_enter Tryz.func57, Tryz.ntmps57
  go_wp2
  go_loopw [3, 4] (fun u i wr => ∃ (k : Nat) (acc : List Bs), k ≤ l.length ∧ i = .int .i64 k ∧ wr.ownsRow w.heap.size 9 1 u acc.length (acc.map sv) ∧ Below w.heap.size w wr ∧ Hid (acc = Idn.insAll (Idn.lows (l.take k)))) (fun _ i _ => l.length - (intOf i).toNat)
  case atStart => exact ⟨0, [], Nat.zero_le _, rfl, World.ownsRow_nil _ _ _ _, Below.refl _ _, rfl⟩
  case round =>
    obtain ⟨k, acc, hk, rfl, hown, hb, hacc⟩ := hrel
    by_cases hlt : k < l.length
    · have hltI : (k : Int) < (l.length : Int) := by omega
      obtain ⟨b, off, va, rfl, hbl, c0, c1, hva⟩ := AttsV.cell (AttsV.keep hv hb) hlt
      obtain ⟨Av, cv, rfl, hcv⟩ := SlV.shape hva
      have hlk := lows_take l k hlt
      obtain ⟨hn9, hv9, _⟩ := hs.2 l[k] (List.getElem_mem hlt)
      by_cases hz : 0 < l[k].vals.length
      · have hzI : (0 : Int) < (l[k].vals.length : Int) := by omega
        rw [if_pos hz] at hlk
        have hL := r_lower_any (B l[k].name) wr (by rw [Idn.size_B]; omega)
        rw [Idn.L_B] at hL
        have HA : Hid (Idn.insS (Idn.lower l[k].name) acc = Idn.insAll (Idn.lows (l.take (k + 1)))) := by show _ = _; rw [hlk, insAll_snoc, hacc.out]
        have hpw : acc.Pairwise (· < ·) := by rw [hacc.out]; exact insAll_pw _
        have hal : acc.length ≤ 1000 := by
          rw [hacc.out]
          refine Nat.le_trans (insAll_len _) (Nat.le_trans (lows_len _) ?_)
          rw [List.length_take]; omega
        have hI := fun W (hW : Below wr.heap.size wr W) => r_Insert_any _ acc (B (Idn.lower l[k].name)) W (SlV.mono (SlV.keep (StrsV.of_own hown) hW) hW.size) hpw (by omega)
        rw [Idn.L_B] at hI
        generalize Idn.lower l[k].name = nm at *
        clear hlk hacc hpw
        obtain ⟨Au, cu, hu⟩ := own_shape hown
        subst hu
        go_wp2_with fail
        refine hL.mono ?_
        rintro e w1 ⟨rfl, hb1⟩
        have hI1 := hI w1 hb1
        clear hL hI c0 c1 hown
        go_wp2_with fail
        refine hI1.mono ?_
        rintro e w2 ⟨v2, rfl, ho2, hb2⟩
        clear hI1
        have hb12 := hb1.trans (hb2.mono hb1.size)
        have hbw2 := hb.trans (hb12.mono hb.size)
        have ho2' := own_base ho2 (Nat.le_trans hb.size hb1.size)
        clear ho2
        go_wp2
        go_roundw
        case rel => exact ⟨k + 1, _, by omega, by go_num, ho2', hbw2, HA⟩
        case measure => simp [intOf]; omega
      · have hzI : ¬ (0 : Int) < (l[k].vals.length : Int) := by omega
        rw [if_neg hz, List.append_nil] at hlk
        have HA : Hid (acc = Idn.insAll (Idn.lows (l.take (k + 1)))) := by show _ = _; rw [hlk, hacc.out]
        clear hlk hacc hz
        go_wp2
        go_roundw
        case rel => exact ⟨k + 1, acc, by omega, by go_num, hown, hb, HA⟩
        case measure => simp [intOf]; omega
    · have hltI : ¬ (k : Int) < (l.length : Int) := by omega
      have e1 : l.take k = l := List.take_of_length_le (by omega)
      have HN : Hid (acc = Idn.insAll (Idn.lows l)) := by show _ = _; rw [hacc.out, e1]
      have hal : acc.length ≤ 1000 := by rw [HN.out]; exact hnl
      obtain ⟨wn, hwn⟩ : ∃ wn : World, wn = wr := ⟨_, rfl⟩
      subst hwn
      obtain ⟨Au, cu, hu⟩ := own_shape hown
      subst hu
      have hvn := AttsV.keep hv hb
      have hS := StrsV.of_own hown
      clear hacc e1 hnl hlt hk hown
      go_wp2
      clear hltI
      go_loopw [5, 6] (fun u i wr => ∃ (k : Nat) (ps : List (Idn.Att × Value)), k ≤ acc.length ∧ i = .int .i64 k ∧ AttRow wr wn.heap.size u ps ∧ Below wn.heap.size wn wr ∧ ps.length = k ∧ Hid (ps.map (·.1) = (acc.take k).map (Idn.rOne l))) (fun _ i _ => acc.length - (intOf i).toNat)
      case atStart => exact ⟨0, [], Nat.zero_le _, rfl, AttRow.nil _ _, Below.refl _ _, rfl, rfl⟩
      case round =>
        obtain ⟨k, ps, hk, rfl, hrow, hbn, hpl, hps⟩ := hrel
        by_cases hlt : k < acc.length
        · have hltI : (k : Int) < (acc.length : Int) := by omega
          obtain ⟨g, o, rfl, hgl, d0⟩ := StrsV.cell (SlV.keep hS hbn) hlt
          obtain ⟨w0, hw0⟩ : ∃ w0 : World, w0 = wr := ⟨_, rfl⟩
          subst hw0
          have htk := List.take_succ_eq_append_getElem hlt
          have HTK := Lib.hid htk
          have HPL := Lib.hid hpl
          clear htk hpl
          obtain ⟨Ar, cr, hu⟩ := own_shape hrow.1
          subst hu
          generalize hnm : acc[k] = nm at *
          have HNM := Lib.hid hnm
          clear hnm
          go_upto_block 4 with fail
          with_reducible refine gen1 (R := fun W => Code.wp Tryz.prog _ _ _ W) ?_
          intro W1 hbW1 hszW1 hc1 hf1
          have hP1 : PairAt W1 w0.heap.size (.string (B nm)) (.slice none 0 0) := ⟨⟨hc1 0 _ rfl, hc1 1 _ rfl⟩, ⟨hf1 0, hf1 1⟩, by omega⟩
          clear hc1 hf1
          go_wp2_with fail
          go_loopw [8] (fun i wx => ∃ (j : Nat) (vs : List Bs) (u : Value), j ≤ l.length ∧ i = .int .i64 j ∧ Below w0.heap.size w0 wx ∧ PairAt wx w0.heap.size (.string (B nm)) u ∧ wx.ownsRow (w0.heap.size + 1) 9 1 u vs.length (vs.map sv) ∧ Hid (vs = Idn.insAll (Idn.valsOf (l.take j) nm))) (fun i _ => l.length - (intOf i).toNat)
          case atStart => exact ⟨0, [], _, Nat.zero_le _, rfl, hbW1, hP1, World.ownsRow_nil _ _ _ _, rfl⟩
          case round =>
            obtain ⟨j, vs, u, hj, rfl, hbx, hP, hvs, hacc⟩ := hrel
            clear hP1 hbW1 hszW1
            by_cases hjl : j < l.length
            · have hjI : (j : Int) < (l.length : Int) := by omega
              have hvt := vals_take l nm j hjl
              have HVT := Lib.hid hvt
              clear hvt
              obtain ⟨hn9, hv9, _⟩ := hs.2 l[j] (List.getElem_mem hjl)
              obtain ⟨wj, hwj⟩ : ∃ wj : World, wj = wr := ⟨_, rfl⟩
              subst hwj
              go_wp2
              go_loopw [9] (fun i wx => ∃ (m : Nat) (vs : List Bs) (u : Value), m ≤ l[j].vals.length ∧ i = .int .i64 m ∧ Below w0.heap.size w0 wx ∧ PairAt wx w0.heap.size (.string (B nm)) u ∧ wx.ownsRow (w0.heap.size + 1) 9 1 u vs.length (vs.map sv) ∧ Hid (vs = Idn.insAll (Idn.valsOf (l.take j) nm ++ l[j].vals.take m)) ∧ (Idn.lower l[j].name = nm ∨ m = 0)) (fun i _ => l[j].vals.length - (intOf i).toNat)
              case atStart => exact ⟨0, vs, u, Nat.zero_le _, rfl, hbx, hP, hvs, by show _ = _; rw [hacc.out]; simp, .inr rfl⟩
              case round =>
                obtain ⟨m, vs, u, hm, rfl, hbx, hP, hvs, hacc, hor⟩ := hrel
                have hbnx := hbn.trans (hbx.mono hbn.size)
                obtain ⟨b, off, va, rfl, hbl, c0, c1, hva⟩ := AttsV.cell (AttsV.keep hvn (hbnx.mono hb.size)) hjl
                obtain ⟨Av, cv, rfl, hcv⟩ := SlV.shape hva
                have e0 := (hbx.cell (p := ⟨g, o + k, none⟩) (Nat.lt_of_lt_of_le hgl hbn.size)).trans d0
                have hL := fun W => r_lower_any (B l[j].name) W (by rw [Idn.size_B]; omega)
                rw [Idn.L_B] at hL
                have k0 := cell_regrown c0
                have k1 := cell_regrown c1
                have k2 := cell_regrown e0
                have q1 := cq (W := wr) fun W' _ => hL W'
                have hsame : (((B (Idn.lower l[j].name)).toList == (B nm).toList)) = decide (Idn.lower l[j].name = nm) := by rw [str_beq, Idn.L_B, Idn.L_B]
                by_cases he : Idn.lower l[j].name = nm
                · rw [decide_eq_true he] at hsame
                  by_cases hml : m < l[j].vals.length
                  · have hmI : (m : Int) < (l[j].vals.length : Int) := by omega
                    have HS : Hid (Idn.insS l[j].vals[m] vs = Idn.insAll (Idn.valsOf (l.take j) nm ++ l[j].vals.take (m + 1))) := by
                      show _ = _
                      rw [hacc.out, List.take_succ_eq_append_getElem hml, insAll_app]
                    have hpw : vs.Pairwise (· < ·) := by rw [hacc.out]; exact insAll_pw _
                    have hvl : vs.length ≤ 2000000000 := by
                      rw [hacc.out]
                      refine Nat.le_trans (insAll_len _) ?_
                      have h1 := vals_len (l := l.take j) (c := 1100000) (fun a ha => (hs.2 a (List.mem_of_mem_take ha)).2.1) nm
                      rw [List.length_append, List.length_take]
                      rw [List.length_take] at h1
                      have h2 : min j l.length * 1100000 ≤ 900 * 1100000 := Nat.mul_le_mul_right _ (by omega)
                      omega
                    clear hacc hor
                    generalize Idn.lower l[j].name = ln at *
                    have HE := Lib.hid he
                    clear he hL
                    go_wp2
                    refine wp_region_quiet_below (by kernel_rfl) (by kernel_rfl) ?_
                    repeat (first | go_big_quiet_step ((go_at_call 55; exact q1 _ _)) | quiet_step ((go_at_call 55; exact q1 _ _)))
                    refine wpQuiet_nil ?_
                    intro _ hw'
                    obtain ⟨⟨dq, osq⟩, hw''⟩ := hw'
                    subst hw''
                    have hb4 := below_regrown wr dq osq
                    generalize grow (redrawn wr dq) osq = W4 at hb4 ⊢
                    clear q1 k0 k1 k2
                    have hpx : w0.heap.size < wr.heap.size := hP.2.2
                    have hP4 := PairAt.keep hP hb4 hpx
                    have hvs4 := own_below hvs hb4
                    have f1 := cell_later hb4 c1
                    have hb04 := hbx.trans (hb4.mono hbx.size)
                    obtain ⟨gv, ov, rfl, hgv, m0⟩ := StrsV.cell (SlV.keep (SlV.mono hva (Nat.le_trans hb.size (Nat.le_trans hbn.size hbx.size))) hb4) hml
                    clear c0 c1 e0 hP hvs
                    have hIn := r_Insert_any u vs (B l[j].vals[m]) W4.drew (StrsV.of_own (w := W4.drew) hvs4) hpw (by omega)
                    rw [Idn.L_B] at hIn
                    have z1 : W4.drew.cell? ⟨w0.heap.size, 1, none⟩ = some u := hP4.1.2
                    have z2 : W4.drew.cell? ⟨b, off + j * 2 + 1, none⟩ = some (.slice (some ⟨gv, ov, none⟩) l[j].vals.length cv) := f1
                    have z3 : W4.drew.cell? ⟨gv, ov + m, none⟩ = some (.string (B l[j].vals[m])) := m0
                    have z4 : W4.drew.frozen? ⟨w0.heap.size, 1, none⟩ = false := hP4.2.1.2
                    have hP4d : PairAt W4.drew w0.heap.size (.string (B nm)) u := hP4
                    have hb04d : Below w0.heap.size w0 W4.drew := hb04.drew
                    have hpx4 : w0.heap.size < W4.drew.heap.size := hP4d.2.2
                    obtain ⟨Ab, cb, hu⟩ := own_shape hvs4
                    subst hu
                    clear m0 f1 hP4 hvs4
                    go_wp2_with fail
                    go_region_law (
                      go_simp
                      go_at_call 104
                      refine hIn.mono ?_
                      rintro e w6 ⟨v6, rfl, ho6, hb6⟩
                      have hP6 := PairAt.keep hP4d hb6 hpx4
                      obtain ⟨⟨r0, r1⟩, ⟨s0, s1⟩, hl6⟩ := hP6
                      obtain ⟨A6, c6, hv6⟩ := own_shape ho6
                      subst hv6
                      go_wp2_with fail)
                    all_goals
                      have hP6 : PairAt (w6.setCell ⟨w0.heap.size, 1, none⟩ (.slice A6 (Idn.insS l[j].vals[m] vs).length c6)) w0.heap.size (.string (B nm)) (.slice A6 (Idn.insS l[j].vals[m] vs).length c6) := PairAt.put (PairAt.keep hP4d hb6 hpx4) _
                      have hne9 : (Value.slice A6 (Idn.insS l[j].vals[m] vs).length c6).ownBlock ≠ some w0.heap.size := fun e => absurd (ho6.lt _ e).1 (Nat.not_le.2 hpx4)
                      have ho7 : (w6.setCell ⟨w0.heap.size, 1, none⟩ (.slice A6 (Idn.insS l[j].vals[m] vs).length c6)).ownsRow (w0.heap.size + 1) 9 1 (.slice A6 (Idn.insS l[j].vals[m] vs).length c6) (Idn.insS l[j].vals[m] vs).length ((Idn.insS l[j].vals[m] vs).map sv) :=
                        own_base (ownsRow_setCell_other ho6 hne9 _) hpx4
                      have hb7 : Below w0.heap.size w0 (w6.setCell ⟨w0.heap.size, 1, none⟩ (.slice A6 (Idn.insS l[j].vals[m] vs).length c6)) := (hb04d.trans (hb6.mono hb04d.size)).setCell (Nat.le_refl _) _
                      go_wp2_with fail
                      go_roundw
                      case rel => exact ⟨m + 1, _, _, by omega, by go_num, hb7, hP6, ho7, HS, .inl HE.out⟩
                      case measure => simp [intOf]; omega
                  · have hmI : ¬ (m : Int) < (l[j].vals.length : Int) := by omega
                    have HS : Hid (vs = Idn.insAll (Idn.valsOf (l.take (j + 1)) nm)) := by
                      show _ = _
                      rw [hacc.out, HVT.out, if_pos he, (List.take_of_length_le (by omega) : l[j].vals.take m = l[j].vals)]
                    clear hacc hor
                    generalize Idn.lower l[j].name = ln at *
                    clear he hL
                    go_wp2
                    refine wp_region_quiet_below (by kernel_rfl) (by kernel_rfl) ?_
                    repeat (first | go_big_quiet_step ((go_at_call 55; exact q1 _ _)) | quiet_step ((go_at_call 55; exact q1 _ _)))
                    refine wpQuiet_nil ?_
                    intro _ hw'
                    obtain ⟨⟨dq, osq⟩, hw''⟩ := hw'
                    subst hw''
                    have hb4 := below_regrown wr dq osq
                    generalize grow (redrawn wr dq) osq = W4 at hb4 ⊢
                    clear q1 k0 k1 k2
                    have hP4 := PairAt.keep hP hb4 hP.2.2
                    have hvs4 := own_below hvs hb4
                    have hb04 := hbx.trans (hb4.mono hbx.size)
                    clear c0 c1 e0 hP hvs
                    go_wp2_with fail
                    go_roundw
                    case rel => exact ⟨j + 1, vs, u, by omega, by go_num, hb04, hP4, hvs4, HS⟩
                    case measure => simp [intOf]; omega
                · rw [decide_eq_false he] at hsame
                  obtain rfl : m = 0 := hor.resolve_left he
                  have HS : Hid (vs = Idn.insAll (Idn.valsOf (l.take (j + 1)) nm)) := by
                    show _ = _
                    rw [hacc.out, HVT.out, if_neg he]; rfl
                  clear hacc hor
                  generalize Idn.lower l[j].name = ln at *
                  clear he hL
                  go_wp2
                  refine wp_region_quiet_below (by kernel_rfl) (by kernel_rfl) ?_
                  repeat (first | go_big_quiet_step ((go_at_call 55; exact q1 _ _)) | quiet_step ((go_at_call 55; exact q1 _ _)))
                  refine wpQuiet_nil ?_
                  intro _ hw'
                  obtain ⟨⟨dq, osq⟩, hw''⟩ := hw'
                  subst hw''
                  have hb4 := below_regrown wr dq osq
                  generalize grow (redrawn wr dq) osq = W4 at hb4 ⊢
                  clear q1 k0 k1 k2
                  have hP4 := PairAt.keep hP hb4 hP.2.2
                  have hvs4 := own_below hvs hb4
                  have hb04 := hbx.trans (hb4.mono hbx.size)
                  clear c0 c1 e0 hP hvs
                  go_wp2_with fail
                  go_roundw
                  case rel => exact ⟨j + 1, vs, u, by omega, by go_num, hb04, hP4, hvs4, HS⟩
                  case measure => simp [intOf]; omega
            · have hjI : ¬ (j : Int) < (l.length : Int) := by omega
              have e1 : l.take j = l := List.take_of_length_le (by omega)
              have HV : Hid (vs = Idn.insAll (Idn.valsOf l nm)) := by show _ = _; rw [hacc.out, e1]
              have hrow2 := hrow.keep hbx
              obtain ⟨⟨p0, p1⟩, _, hpx⟩ := hP
              have hbase : wn.heap.size ≤ w0.heap.size := hbn.size
              have hbx2 := hbx.size
              obtain ⟨Ab, cb, hu⟩ := own_shape hvs
              subst hu
              have hwx : wn.heap.size ≤ wr.heap.size := by omega
              have hrl : (ps.length + 1) * 41 ≤ 140737488355328 := by have := HPL.out; omega
              clear hacc e1 hjl hj hrow
              go_wp2_with (at_builtin; refine wpList_push wr rfl _ _ 22 rfl wn.heap.size 48 (.agg #[.string ⟨#[]⟩, .slice none 0 0]) 2 40 Tryz.underlying22 info_attr rfl (by decide) _ ps.length _ hrow2.1 rfl [.string (B nm), .slice Ab vs.length cb] rfl rfl (by intro u hu; simp at hu; rcases hu with rfl | rfl <;> rfl) hrl hwx ?_ rfl)
              intro v' w1' hown' hg' _ hb' _
              have hrow3 : AttRow w1' wn.heap.size v' (ps ++ [(⟨nm, vs⟩, .slice Ab vs.length cb)]) := AttRow.push hrow2 (own_base hvs (by omega)) (by simpa [sv] using hown') hg'
              have hbw1 : Below wn.heap.size wn w1' := (hbn.trans (hbx.mono hbn.size)).trans hb'
              go_wp2
              go_roundw
              case rel => exact ⟨k + 1, _, by omega, by go_num, hrow3, hbw1, by simp; exact HPL.out, by
                show _ = _
                rw [HTK.out, List.map_append, List.map_append, hps.out]
                simp only [List.map_cons, List.map_nil]
                rw [HV.out]; rfl⟩
              case measure => simp [intOf]; omega
        · have hltI : ¬ (k : Int) < (acc.length : Int) := by omega
          have e1 : acc.take k = acc := List.take_of_length_le (by omega)
          have HF : Hid (ps.map (·.1) = Idn.rSorted l) := by show _ = _; rw [hps.out, e1, HN.out]; rfl
          clear hps e1
          go_wp2
          go_ret
          exact ⟨_, rfl, ps, hrow.low hb.size, HF.out, hb.trans (hbn.mono hb.size)⟩
end Go.Proofs.YtoopoglkeeoamaaGreatDoor
/- schema: read. -/
namespace Go.Proofs.YtoopoglkeeoamaaGreatDoor
open Go.RowKit Go.Sort
open Idn (L B Bs drop_L take_L size_L)
def rowT (l : List Idn.AT) : List Value := l.flatMap fun t => [sv t.name, .int .i64 t.syn, .bool t.single]
def TyOwn (w : World) (base : Nat) (v : Value) (l : List Idn.AT) : Prop := w.ownsRow base 65 3 v l.length (rowT l)
abbrev ClP := Idn.Cl × (Value × Value)
def rowC (ps : List ClP) : List Value := ps.flatMap fun p => [sv p.1.name, sv p.1.super, p.2.1, p.2.2]
def ClOwn (w : World) (base : Nat) (v : Value) (ps : List ClP) : Prop :=
  w.ownsRow base 67 4 v ps.length (rowC ps) ∧ ∀ p ∈ ps, w.ownsRow base 9 1 p.2.1 p.1.must.length (p.1.must.map sv) ∧ w.ownsRow base 9 1 p.2.2 p.1.may.length (p.1.may.map sv)
theorem TyOwn.keep {w w' : World} {base : Nat} {v : Value} {l : List Idn.AT} (h : TyOwn w base v l) (hb : Below w.heap.size w w') : TyOwn w' base v l := own_below h hb
theorem ClOwn.keep {w w' : World} {base : Nat} {v : Value} {ps : List ClP} (h : ClOwn w base v ps) (hb : Below w.heap.size w w') : ClOwn w' base v ps :=
  ⟨own_below h.1 hb, fun p hp => ⟨own_below (h.2 p hp).1 hb, own_below (h.2 p hp).2 hb⟩⟩
theorem rowC_snoc (l : List ClP) (t : ClP) : rowC (l ++ [t]) = rowC l ++ [sv t.1.name, sv t.1.super, t.2.1, t.2.2] := by unfold rowC; rw [List.flatMap_append]; rfl
theorem TyOwn.nil (w : World) (base : Nat) : TyOwn w base (.slice none 0 0) [] := World.ownsRow_nil _ _ _ _
theorem ClOwn.nil (w : World) (base : Nat) : ClOwn w base (.slice none 0 0) [] := ⟨World.ownsRow_nil _ _ _ _, by simp⟩
/-- a store into a block that is none of them -/
theorem TyOwn.set {w : World} {base : Nat} {v : Value} {l : List Idn.AT} (h : TyOwn w base v l) {p i : Nat} (u : Value) (hp : v.ownBlock ≠ some p) : TyOwn (w.setCell ⟨p, i, none⟩ u) base v l := ownsRow_setCell_other h hp u
theorem ClOwn.set {w : World} {base : Nat} {v : Value} {ps : List ClP} (h : ClOwn w base v ps) {p i : Nat} (u : Value) (hp : v.ownBlock ≠ some p) (hp2 : ∀ q ∈ ps, q.2.1.ownBlock ≠ some p ∧ q.2.2.ownBlock ≠ some p) : ClOwn (w.setCell ⟨p, i, none⟩ u) base v ps :=
  ⟨ownsRow_setCell_other h.1 hp u, fun q hq => ⟨ownsRow_setCell_other (h.2 q hq).1 (hp2 q hq).1 u, ownsRow_setCell_other (h.2 q hq).2 (hp2 q hq).2 u⟩⟩
theorem ClOwn.push {w w' : World} {base : Nat} {v v' : Value} {ps : List ClP} {c : Idn.Cl} {a b : Value} (h : ClOwn w base v ps) (ha : w.ownsRow base 9 1 a c.must.length (c.must.map sv)) (hb : w.ownsRow base 9 1 b c.may.length (c.may.map sv))
    (hown : w'.ownsRow base 67 4 v' (ps.length + 1) (rowC ps ++ [sv c.name, sv c.super, a, b])) (hg : w.grownBy w' v.ownBlock) : ClOwn w' base v' (ps ++ [(c, (a, b))]) := by
  refine ⟨by rw [List.length_append, rowC_snoc]; exact hown, fun p hp => ?_⟩
  rcases List.mem_append.1 hp with hp | hp
  · exact ⟨own_kept (h.2 p hp).1 hg fun g h1 h2 => own_apart h.1 (h.2 p hp).1 (by decide) g h2 h1, own_kept (h.2 p hp).2 hg fun g h1 h2 => own_apart h.1 (h.2 p hp).2 (by decide) g h2 h1⟩
  · simp at hp; subst hp
    exact ⟨own_kept ha hg fun g h1 h2 => own_apart h.1 ha (by decide) g h2 h1, own_kept hb hg fun g h1 h2 => own_apart h.1 hb (by decide) g h2 h1⟩
theorem rowT_at : ∀ (l : List Idn.AT) (i : Nat) (t : Idn.AT), l[i]? = some t → (rowT l)[i * 3]? = some (sv t.name) ∧ (rowT l)[i * 3 + 1]? = some (.int .i64 t.syn) ∧ (rowT l)[i * 3 + 2]? = some (.bool t.single)
  | [], i, p, h => by simp at h
  | q :: ps, 0, p, h => by simp at h; subst h; exact ⟨rfl, rfl, rfl⟩
  | q :: ps, i + 1, p, h => by
    have := rowT_at ps i p (by simpa using h)
    have e : rowT (q :: ps) = sv q.name :: .int .i64 q.syn :: .bool q.single :: rowT ps := rfl
    rw [e, show (i + 1) * 3 = i * 3 + 1 + 1 + 1 by omega, show i * 3 + 1 + 1 + 1 + 1 = (i * 3 + 1) + 1 + 1 + 1 by omega, show i * 3 + 1 + 1 + 1 + 2 = (i * 3 + 2) + 1 + 1 + 1 by omega]
    simpa using this
theorem rowC_at : ∀ (l : List ClP) (i : Nat) (t : ClP), l[i]? = some t → (rowC l)[i * 4]? = some (sv t.1.name) ∧ (rowC l)[i * 4 + 1]? = some (sv t.1.super) ∧ (rowC l)[i * 4 + 2]? = some t.2.1 ∧ (rowC l)[i * 4 + 3]? = some t.2.2
  | [], i, p, h => by simp at h
  | q :: ps, 0, p, h => by simp at h; subst h; exact ⟨rfl, rfl, rfl, rfl⟩
  | q :: ps, i + 1, p, h => by
    have := rowC_at ps i p (by simpa using h)
    have e : rowC (q :: ps) = sv q.1.name :: sv q.1.super :: q.2.1 :: q.2.2 :: rowC ps := rfl
    rw [e, show (i + 1) * 4 = i * 4 + 1 + 1 + 1 + 1 by omega, show i * 4 + 1 + 1 + 1 + 1 + 1 = (i * 4 + 1) + 1 + 1 + 1 + 1 by omega, show i * 4 + 1 + 1 + 1 + 1 + 2 = (i * 4 + 2) + 1 + 1 + 1 + 1 by omega, show i * 4 + 1 + 1 + 1 + 1 + 3 = (i * 4 + 3) + 1 + 1 + 1 + 1 by omega]
    simpa using this
theorem TyOwn.types {w : World} {base : Nat} {v : Value} {l : List Idn.AT} (h : TyOwn w base v l) : TypesV w w.heap.size v l :=
  SlV.own h fun i x hx => ⟨[sv x.name, .int .i64 x.syn, .bool x.single], rfl, rfl, fun j u hu => by
    have h1 := rowT_at l i x hx
    match j, hu with
    | 0, hu => simp at hu; subst hu; exact h1.1
    | 1, hu => simp at hu; subst hu; exact h1.2.1
    | 2, hu => simp at hu; subst hu; exact h1.2.2⟩
theorem ClOwn.classes {w : World} {base : Nat} {v : Value} {ps : List ClP} {l : List Idn.Cl} (h : ClOwn w base v ps) (hl : ps.map (·.1) = l) : ClassesV w w.heap.size v l := by
  subst hl
  have h0 := h.1
  rw [show ps.length = (ps.map (·.1)).length by simp] at h0
  refine SlV.own h0 fun i x hx => ?_
  rw [List.getElem?_map] at hx
  obtain ⟨p, hp, rfl⟩ := Option.map_eq_some_iff.1 hx
  have h1 := rowC_at ps i p hp
  have h2 := h.2 p (List.mem_of_getElem? hp)
  refine ⟨[sv p.1.name, sv p.1.super, p.2.1, p.2.2], rfl, ⟨_, _, rfl, StrsV.of_own h2.1, StrsV.of_own h2.2⟩, fun j u hu => ?_⟩
  match j, hu with
  | 0, hu => simp at hu; subst hu; exact h1.1
  | 1, hu => simp at hu; subst hu; exact h1.2.1
  | 2, hu => simp at hu; subst hu; exact h1.2.2.1
  | 3, hu => simp at hu; subst hu; exact h1.2.2.2
theorem TyOwn.drew {w : World} {base : Nat} {v : Value} {l : List Idn.AT} (h : TyOwn w base v l) : TyOwn w.drew base v l := h
theorem ClOwn.drew {w : World} {base : Nat} {v : Value} {ps : List ClP} (h : ClOwn w base v ps) : ClOwn w.drew base v ps := h
theorem TyOwn.lt {w : World} {base : Nat} {v : Value} {l : List Idn.AT} (h : TyOwn w base v l) {p : Nat} (hp : w.heap.size ≤ p) : v.ownBlock ≠ some p := fun e => by have := own_lt h e; omega
theorem ClOwn.lt {w : World} {base : Nat} {v : Value} {ps : List ClP} (h : ClOwn w base v ps) {p : Nat} (hp : w.heap.size ≤ p) : v.ownBlock ≠ some p ∧ ∀ q ∈ ps, q.2.1.ownBlock ≠ some p ∧ q.2.2.ownBlock ≠ some p :=
  ⟨fun e => by have := own_lt h.1 e; omega, fun q hq => ⟨fun e => by have := own_lt (h.2 q hq).1 e; omega, fun e => by have := own_lt (h.2 q hq).2 e; omega⟩⟩
end Go.Proofs.YtoopoglkeeoamaaGreatDoor
/- schema: read at 'class', read otherwise. -/
namespace Go.Proofs.YtoopoglkeeoamaaGreatDoor
open Go.RowKit Go.Sort
open Idn (L B Bs drop_L take_L size_L)
end Go.Proofs.YtoopoglkeeoamaaGreatDoor
/- schema: Parse, whatever the text. -/
namespace Go.Proofs.YtoopoglkeeoamaaGreatDoor
open Go.RowKit Go.Sort
open Idn (L B Bs drop_L take_L size_L)
def fin (s : Idn.Sch) : Idn.Sch × Int × Int := if Idn.sCheck s = 0 then (s, 0, 0) else (⟨[], []⟩, 0, Idn.sCheck s)
theorem TyOwn.low {w : World} {base b : Nat} {v : Value} {l : List Idn.AT} (h : TyOwn w base v l) (hb : b ≤ base) : TyOwn w b v l := own_base h hb
theorem ClOwn.low {w : World} {base b : Nat} {v : Value} {ps : List ClP} (h : ClOwn w base v ps) (hb : b ≤ base) : ClOwn w b v ps := ⟨own_base h.1 hb, fun p hp => ⟨own_base (h.2 p hp).1 hb, own_base (h.2 p hp).2 hb⟩⟩
end Go.Proofs.YtoopoglkeeoamaaGreatDoor
