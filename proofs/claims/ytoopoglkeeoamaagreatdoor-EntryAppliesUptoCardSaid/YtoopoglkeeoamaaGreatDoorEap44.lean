/- Part 44 of the proof that identitylaw08.EntryApplies returns true: the package variables hold what the program lays; nothing else is asked. -/
import Derived.Test.YtoopoglkeeoamaaGreatDoorEap43
set_option linter.unusedVariables false
set_option linter.unusedSimpArgs false
set_option maxRecDepth 100000
set_option maxHeartbeats 8000000
/- entry: Normal, walked. -/
namespace Go.Proofs.YtoopoglkeeoamaaGreatDoor
open Go.RowKit Go.Sort
open Idn (L B Bs drop_L take_L size_L)
theorem eNormal_unf (s : Idn.Sch) (n : Bs) (l : List Idn.Att) : eNormal s n l = if (Idn.cleanN n).2 != 0 || (Idn.cleanN n).1.isEmpty then (([], []), 5)
 else if Idn.aCheck l != 0 then (([], []), Idn.aCheck l)
 else if (eAttsK s [] (byLow l)).2 != 0 then (([], []), (eAttsK s [] (byLow l)).2)
 else if sValid s (Idn.aSorted (eAttsK s [] (byLow l)).1) != 0 then (([], []), sValid s (Idn.aSorted (eAttsK s [] (byLow l)).1)) else (((Idn.cleanN n).1, Idn.aSorted (eAttsK s [] (byLow l)).1), 0) := rfl
theorem sNorm_le {s : Idn.Sch} {n v : Bs} (h : (sNorm s n v).2 = 0) : (sNorm s n v).1.length ≤ 256 := by
 unfold sNorm kNorm at h ⊢
 by_cases h1 : (tyLook (sound s) n).2
 ·rw [h1] at h ⊢
  by_cases h2 : (Idn.normV (tyLook (sound s) n).1.syn v).2
  ·rw [h2]
   have h3 := h2
   unfold Idn.normV at h3 ⊢
   simp only [Bool.and_eq_true] at h3
   have h4 := h3.2.2
   unfold Idn.clean at h4
   simp only [Bool.and_eq_true, decide_eq_true_eq] at h4
   exact h4.2.2.1
  ·simp only [Bool.not_eq_true] at h2
   rw [h2] at h
   exact absurd h (by simp)
 ·simp only [Bool.not_eq_true] at h1
  rw [h1] at h
  exact absurd h (by simp)
theorem eValsK_all (s : Idn.Sch) (a : Bs) : ∀ (l acc : List Bs), (eValsK s a acc l).2 = 0 → (∀ x ∈ acc, x.length ≤ 256) → ∀ x ∈ (eValsK s a acc l).1, x.length ≤ 256
  | [], _, _, h => h
  | v :: l, acc, h0, h => by
    rw [eValsK] at h0 ⊢
    by_cases he : (sNorm s a v).2 = 0
    · rw [if_neg (by simpa using he)] at h0 ⊢
      refine eValsK_all s a l _ h0 fun x hx => ?_
      rcases List.mem_append.1 hx with hx | hx
      · exact h x hx
      · simp at hx; subst hx; exact sNorm_le he
    · rw [if_pos (by simpa using he)] at h0
      exact absurd h0 he
theorem eVals_ok {s : Idn.Sch} {a : Bs} {l : List Bs} (h : (eVals s a l).2 = 0) : (eVals s a l).1.length = l.length ∧ ∀ x ∈ (eVals s a l).1, x.length ≤ 256 := by
 refine ⟨?_, eValsK_all s a l [] h (by simp)⟩
 have := eValsK_len s a l [] h
 simpa [eVals] using this
theorem aSorted_sm {l : List Idn.Att} (hl : l.length ≤ 32) (h : ∀ a ∈ l, a.vals.length ≤ 16 ∧ a.name.length ≤ 1000000000 ∧ ∀ x ∈ a.vals, x.length ≤ 256) : ASm (Idn.aSorted l) ∧ ASm5 (Idn.aSorted l) := by
 have key : ∀ a ∈ Idn.aSorted l, a.name.length ≤ 1000000000 ∧ a.vals.length ≤ 1000 ∧ ∀ x ∈ a.vals, x.length ≤ 256 := fun a ha => by
  obtain ⟨b, hb, rfl⟩ := Idn.aSorted_from ha
  have h1 := Idn.grp_le 16 l [] 0 (by simp) (fun a ha => (h a ha).1) b hb
  have h2 := Idn.grp_all (p := fun x => x.length ≤ 256) l [] (by simp) (fun a ha x hx => (h a ha).2.2 x hx) b hb
  have h3 := Lib.compact_length_le (Idn.srt b.vals)
  have h4 : (Idn.srt b.vals).length = b.vals.length := by simp [Idn.srt]
  refine ⟨?_, ?_, fun x hx => h2 x (Idn.srt_mem (compact_mem hx))⟩
  ·have hn : b.name ∈ (Idn.grp [] l).map (·.name) := List.mem_map.2 ⟨b, hb, rfl⟩
   rw [Idn.grp_names] at hn
   rcases hn with hn | hn
   ·simp at hn
   ·obtain ⟨a, ha, e⟩ := List.mem_map.1 hn
    show b.name.length ≤ _
    rw [← e, Idn.length_lower]
    exact (h a ha).2.1
  ·show (Lib.compact (Idn.srt b.vals)).length ≤ _
   have : l.length * 16 ≤ 32 * 16 := Nat.mul_le_mul_right _ hl
   omega
 have hlen : (Idn.aSorted l).length ≤ 32 := by
  have h1 := aSorted_len l
  have h2 := grp_len l []
  simp at h2
  omega
 exact ⟨⟨by omega, fun a ha => ⟨(key a ha).1, by have := (key a ha).2.1; omega, fun x hx => by have := (key a ha).2.2 x hx; omega⟩⟩, fun a ha => ⟨(key a ha).1, fun x hx => by have := (key a ha).2.2 x hx; omega⟩⟩
theorem eNormal_any (u : Value) (s : Idn.Sch) (n : ByteArray) (a : Value) (l : List Idn.Att) (w : World) (hu : SchV w w.heap.size u s) (hs : SSm s) (hE : Env w) (hU : EnvU w) (hv : AttsV w w.heap.size a l) (hn : n.size ≤ 1000000000) (hsm : ASm l) (hs5 : ASm5 l) :
  Calls Tryz.prog 17 #[u, .agg #[.string n, a]] w (RetE w (eNormal s (L n) l)) := by
 have hV := fun W (hW : Below w.heap.size w W) => SchV.mono (SchV.keep hu hW) hW.size
 have hA := fun W (hW : Below w.heap.size w W) => AttsV.mono (AttsV.keep hv hW) hW.size
 have hCl := fun W => nm_clean_any n W hn
 have hCk := fun W (hW : Below w.heap.size w W) => attsCheck_any a l W (hA W hW) hsm
 have hCo := fun W (hW : Below w.heap.size w W) hl => cloneA_any a l W (hA W hW) hl
 have hNo := fun W (hW : Below w.heap.size w W) an v vs h1 h2 h3 h4 => enorm_any u s an v vs W (hV W hW) hs (hE.keep hW) (hU.keep hW) h1 h2 h3 h4
 have hVd := fun W (hW : Below w.heap.size w W) nm va q h1 h2 h3 => valid_any u s nm va q W (hV W hW) hs (hE.keep hW) (hU.keep hW) h1 h2 h3
 obtain ⟨au, bu, rfl, hT, hC⟩ := hu
 obtain ⟨A1, c1, rfl, _⟩ := SlV.shape hT
 obtain ⟨A2, c2, rfl, _⟩ := SlV.shape hC
 obtain ⟨A, c, rfl, hc⟩ := SlV.shape hv
 have HR := Lib.hid (eNormal_unf s (L n) l)
 generalize eNormal s (L n) l = r at *
 generalize Idn.cleanN (L n) = cn at *
 obtain ⟨cN, cE⟩ := cn
 have hem : (B cN).toList.isEmpty = cN.isEmpty := by rw [toList_L, Idn.L_B]
 have hck := fun h => Idn.aCheck_all (l := l) h
 have hck2 := fun h => aCheck_zero (l := l) h
 generalize Idn.aCheck l = ck at *
 dsimp only at hCl
 clear hT hC
 go_enter Tryz.func17, Tryz.ntmps17
 go_upto_region 1 with fail
 with_reducible refine gen3 (R := fun W => Code.wp Tryz.prog _ _ _ W) ?_
 intro W hbW hszW hc1 hc2 hc3 hfz
 have q0 : W.cell? ⟨w.heap.size, 0, none⟩ = some (.slice A1 s.types.length c1) := hc1 0 _ rfl
 have q1 : W.cell? ⟨w.heap.size, 1, none⟩ = some (.slice A2 s.classes.length c2) := hc1 1 _ rfl
 have e0 : W.cell? ⟨w.heap.size + 1, 0, none⟩ = some (.string n) := hc2 0 _ rfl
 have e1 : W.cell? ⟨w.heap.size + 1, 1, none⟩ = some (.slice A l.length c) := hc2 1 _ rfl
 have z0 : W.cell? ⟨w.heap.size + 1 + 1, 0, none⟩ = some (.string ⟨#[]⟩) := hc3 0 _ rfl
 have z1 : W.cell? ⟨w.heap.size + 1 + 1, 1, none⟩ = some (.slice none 0 0) := hc3 1 _ rfl
 have g0 := hfz 0
 have g1 := hfz 1
 have hzW : w.heap.size + 1 + 1 < W.heap.size := by omega
 have hzz : w.heap.size ≤ w.heap.size + 1 + 1 := by omega
 clear hc1 hc2 hc3 hfz hszW
 go_wp2_with fail
 refine (hCl W).mono ?_
 rintro e w1 ⟨rfl, hb1⟩
 have hbw1 := hbW.trans (hb1.mono hbW.size)
 have hws1 := hb1.size
 replace q0 := cell_later hb1 q0
 replace q1 := cell_later hb1 q1
 replace e1 := cell_later hb1 e1
 replace z0 := cell_later hb1 z0
 replace z1 := cell_later hb1 z1
 replace g0 := (hb1.frozen (p := ⟨w.heap.size + 1 + 1, 0, none⟩) hzW).trans g0
 replace g1 := (hb1.frozen (p := ⟨w.heap.size + 1 + 1, 1, none⟩) hzW).trans g1
 clear hCl e0 hbW hb1
 by_cases hce : cE = 0
 case neg =>
  have hI : (cE != 0) = true := by simpa using hce
  have HF : Hid (r = (([], []), 5)) := by show _ = _; rw [HR.out, hI]; rfl
  clear HR hce
  go_wp2_with fail
  exact bodyPost_ret (v := .tuple #[.agg #[.string ⟨#[]⟩, .slice none 0 0], .int .i64 5]) (by simp [results, Tryz.results17, go_sem, z0, z1, g0, g1]) rfl ⟨_, [], by rw [HF.out]; rfl, AttOwn.nil _ _, by rw [HF.out]; rfl, (hbw1.setCell (p := ⟨w.heap.size + 1 + 1, 0, none⟩) hzz _).setCell (p := ⟨w.heap.size + 1 + 1, 1, none⟩) hzz _⟩
 subst hce
 cases hemp : cN.isEmpty
 case true =>
  rw [hemp] at hem
  have HF : Hid (r = (([], []), 5)) := by show _ = _; rw [HR.out, hemp]; rfl
  clear HR hemp
  go_wp2_with fail
  exact bodyPost_ret (v := .tuple #[.agg #[.string ⟨#[]⟩, .slice none 0 0], .int .i64 5]) (by simp [results, Tryz.results17, go_sem, z0, z1, g0, g1]) rfl ⟨_, [], by rw [HF.out]; rfl, AttOwn.nil _ _, by rw [HF.out]; rfl, (hbw1.setCell (p := ⟨w.heap.size + 1 + 1, 0, none⟩) hzz _).setCell (p := ⟨w.heap.size + 1 + 1, 1, none⟩) hzz _⟩
 have hem2 : (!(B cN).toList.isEmpty) = true := by rw [hem, hemp]; rfl
 rw [hemp] at hem
 replace HR : Hid (r = if ck != 0 then (([], []), ck)
  else if (eAttsK s [] (byLow l)).2 != 0 then (([], []), (eAttsK s [] (byLow l)).2)
  else if sValid s (Idn.aSorted (eAttsK s [] (byLow l)).1) != 0 then (([], []), sValid s (Idn.aSorted (eAttsK s [] (byLow l)).1)) else ((cN, Idn.aSorted (eAttsK s [] (byLow l)).1), 0)) := by show _ = _; rw [HR.out, hemp]; rfl
 have hzW1 : w.heap.size + 1 + 1 < w1.heap.size := by omega
 clear hemp hzW hws1
 go_wp2_with fail
 refine (hCk w1 hbw1).mono ?_
 rintro e w2 ⟨rfl, hb2⟩
 have hbw2 := hbw1.trans (hb2.mono hbw1.size)
 have hws2 := hb2.size
 replace q0 := cell_later hb2 q0
 replace q1 := cell_later hb2 q1
 replace e1 := cell_later hb2 e1
 replace z0 := cell_later hb2 z0
 replace z1 := cell_later hb2 z1
 replace g0 := (hb2.frozen (p := ⟨w.heap.size + 1 + 1, 0, none⟩) hzW1).trans g0
 replace g1 := (hb2.frozen (p := ⟨w.heap.size + 1 + 1, 1, none⟩) hzW1).trans g1
 have hzW2 : w.heap.size + 1 + 1 < w2.heap.size := by omega
 clear hCk hbw1 hb2 hzW1 hws2
 by_cases hck0 : ck = 0
 case neg =>
  have hI : (ck != 0) = true := by simpa using hck0
  have HF : Hid (r = (([], []), ck)) := by show _ = _; rw [HR.out, if_pos hI]
  clear HR hck0 hck hck2
  go_wp2_with fail
  exact bodyPost_ret (v := .tuple #[.agg #[.string ⟨#[]⟩, .slice none 0 0], .int .i64 ck]) (by simp [results, Tryz.results17, go_sem, z0, z1, g0, g1]) rfl ⟨_, [], by rw [HF.out]; rfl, AttOwn.nil _ _, by rw [HF.out]; rfl, (hbw2.setCell (p := ⟨w.heap.size + 1 + 1, 0, none⟩) hzz _).setCell (p := ⟨w.heap.size + 1 + 1, 1, none⟩) hzz _⟩
 subst hck0
 obtain ⟨hl32, hnd, hall⟩ := hck rfl
 obtain ⟨_, hv16⟩ := hck2 rfl
 replace HR : Hid (r = if (eAttsK s [] (byLow l)).2 != 0 then (([], []), (eAttsK s [] (byLow l)).2)
  else if sValid s (Idn.aSorted (eAttsK s [] (byLow l)).1) != 0 then (([], []), sValid s (Idn.aSorted (eAttsK s [] (byLow l)).1)) else ((cN, Idn.aSorted (eAttsK s [] (byLow l)).1), 0)) := by show _ = _; rw [HR.out]; rfl
 have hCo2 := hCo w2 hbw2 (by omega)
 clear hck hck2 hCo
 go_wp2_with fail
 refine hCo2.mono ?_
 rintro e w3 ⟨v3, ps, rfl, hrow, hps, hvs, hb3⟩
 obtain ⟨A3, c3, hv3⟩ := own_shape hrow.1
 subst hv3
 have hpl : ps.length = l.length := by rw [← hps, List.length_map]
 have hSo := sortE_any _ w2.heap.size ps w3 hrow hb3.size (by omega) (fun p hp => (hs5 p.1 (by rw [← hps]; exact List.mem_map.2 ⟨p, hp, rfl⟩)).1) (by rw [hps]; exact hnd)
 have HPL := Lib.hid hpl
 have HPS := Lib.hid hps
 have HVS := Lib.hid hvs
 clear hCo2 hpl hps hvs
 go_wp2_with fail
 refine hSo.mono ?_
 rintro e w4 ⟨rfl, qs, hrow4, hperm, hqs, hb4⟩
 have hb24 := hb3.trans hb4
 have hqm : qs.map (·.1) = byLow l := by rw [hqs, HPS.out]
 have hats4 := RowV.atts hrow4 hqm fun p hp => SlV.mono (SlV.keep (HVS.out p (hperm.mem_iff.1 hp)) hb4) hb24.size
 have hbl1 : (byLow l).length = ps.length := by rw [HPL.out]; unfold byLow; exact List.length_mergeSort _
 have hblm : ∀ a ∈ byLow l, a ∈ l := fun a ha => (List.mergeSort_perm _ _).mem_iff.1 ha
 have hfull := eAttsK_full s (byLow l) [] (by simp) (byLow_full fun a ha => (hv16 a ha).1)
 have hbw4 := hbw2.trans (hb24.mono hbw2.size)
 replace q0 := cell_later hb24 q0
 replace q1 := cell_later hb24 q1
 replace z0 := cell_later hb24 z0
 replace z1 := cell_later hb24 z1
 replace g0 := (hb24.frozen (p := ⟨w.heap.size + 1 + 1, 0, none⟩) hzW2).trans g0
 replace g1 := (hb24.frozen (p := ⟨w.heap.size + 1 + 1, 1, none⟩) hzW2).trans g1
 have hws24 := hb24.size
 have hzW4 : w.heap.size + 1 + 1 < w4.heap.size := by omega
 generalize byLow l = bl at *
 have HBL := Lib.hid hbl1
 have HFULL := Lib.hid hfull
 have hps32 : ps.length ≤ 32 := by rw [HPL.out]; exact hl32
 clear hSo hrow hrow4 hperm hqs hqm hb24 hb4 hb3 hzW2 hws24 e1 hbw2 hbl1 hfull hnd hall
 go_upto_region 10 with fail
 with_reducible refine gen1 (R := fun W => Code.wp Tryz.prog _ _ _ W) ?_
 intro W5 hbW5 hszW5 hc5 hfz5
 have o0 : W5.cell? ⟨w4.heap.size, 0, none⟩ = some (.string (B cN)) := hc5 0 _ rfl
 have o1 : W5.cell? ⟨w4.heap.size, 1, none⟩ = some (.slice none 0 0) := hc5 1 _ rfl
 have fo := hfz5 1
 replace q0 := cell_later hbW5 q0
 replace q1 := cell_later hbW5 q1
 replace z0 := cell_later hbW5 z0
 replace z1 := cell_later hbW5 z1
 replace g0 := (hbW5.frozen (p := ⟨w.heap.size + 1 + 1, 0, none⟩) hzW4).trans g0
 replace g1 := (hbW5.frozen (p := ⟨w.heap.size + 1 + 1, 1, none⟩) hzW4).trans g1
 have hw45 : w4.heap.size < W5.heap.size := by omega
 have hats5 := AttsV.keep hats4 hbW5
 have hwl : w.heap.size < w4.heap.size := by omega
 clear hc5 hfz5 hszW5 hats4
 go_wp2_with fail
 go_loopw [45] (fun i wr => ∃ (k : Nat) (ov : Value) (xs : List (Idn.Att × Value)), k ≤ ps.length ∧ i = .int .i64 k ∧ AttOwn wr W5.heap.size ov xs ∧ Below w4.heap.size W5 wr ∧ wr.cell? ⟨w4.heap.size, 0, none⟩ = some (.string (B cN)) ∧ wr.cell? ⟨w4.heap.size, 1, none⟩ = some ov ∧ wr.frozen? ⟨w4.heap.size, 1, none⟩ = false ∧ Hid (eAttsK s [] bl = eAttsK s (xs.map (·.1)) (bl.drop k)) ∧ Hid (xs.length = k) ∧ Hid (∀ a ∈ xs.map (·.1), a.vals.length ≤ 16 ∧ a.name.length ≤ 1000000000 ∧ ∀ x ∈ a.vals, x.length ≤ 256)) (fun i _ => ps.length - (intOf i).toNat)
 case atStart => exact ⟨0, .slice none 0 0, [], Nat.zero_le _, rfl, AttOwn.nil _ _, Below.refl _ _, o0, o1, fo, by show _ = _; simp, rfl, by show ∀ a ∈ _, _; simp⟩
 case round =>
  obtain ⟨k, ov, xs, hk, rfl, hown, hb, p0, p1, pf, hinv, hxl, hxs⟩ := hrel
  have hb04 := hbW5.trans hb
  have hbw := hbw4.trans (hb04.mono hbw4.size)
  have hwr := hb.size
  have hxk : xs.length ≤ 32 := by rw [hxl.out]; omega
  replace q0 := (hb.cell (p := ⟨w.heap.size, 0, none⟩) hwl).trans q0
  replace q1 := (hb.cell (p := ⟨w.heap.size, 1, none⟩) hwl).trans q1
  replace z0 := (hb.cell (p := ⟨w.heap.size + 1 + 1, 0, none⟩) hzW4).trans z0
  replace z1 := (hb.cell (p := ⟨w.heap.size + 1 + 1, 1, none⟩) hzW4).trans z1
  replace g0 := (hb.frozen (p := ⟨w.heap.size + 1 + 1, 0, none⟩) hzW4).trans g0
  replace g1 := (hb.frozen (p := ⟨w.heap.size + 1 + 1, 1, none⟩) hzW4).trans g1
  obtain ⟨wo, hwo⟩ : ∃ wo : World, wo = wr := ⟨_, rfl⟩
  subst hwo
  by_cases hlt : k < ps.length
  ·have hltb : k < bl.length := by rw [HBL.out]; exact hlt
   obtain ⟨b, off, vk, rfl, hbk, d0, d1, hvk⟩ := AttsV.cell (AttsV.keep hats5 hb) hltb
   obtain ⟨Ak, ck2, rfl, hck2⟩ := SlV.shape hvk
   have hltI : (k : Int) < (ps.length : Int) := by omega
   have h5 := hs5 bl[k] (hblm _ (List.getElem_mem hltb))
   have hvl : bl[k].vals.length ≤ 16 := (hv16 bl[k] (hblm _ (List.getElem_mem hltb))).2
   obtain ⟨t1, t2, t3⟩ := eAttsK_step s bl k hltb _ _ hinv.out
   have T1 := Lib.hid t1
   have T2 := Lib.hid t2
   have T3 := Lib.hid t3
   clear t1 t2 t3 hinv hVd hbk
   generalize bl[k].vals = vals at *
   generalize bl[k].name = anm at *
   go_upto_region 13 with fail
   with_reducible refine gen1 (R := fun W => Code.wp Tryz.prog _ _ _ W) ?_
   intro W6 hbW6 hszW6 hc6 _
   have a0 : W6.cell? ⟨wo.heap.size, 0, none⟩ = some (.string (B anm)) := hc6 0 _ rfl
   have a1 : W6.cell? ⟨wo.heap.size, 1, none⟩ = some (.slice Ak vals.length ck2) := hc6 1 _ rfl
   replace q0 := cell_later hbW6 q0
   replace q1 := cell_later hbW6 q1
   replace p0 := cell_later hbW6 p0
   replace p1 := cell_later hbW6 p1
   replace z0 := cell_later hbW6 z0
   replace z1 := cell_later hbW6 z1
   have hzo : w.heap.size + 1 + 1 < wo.heap.size := by omega
   have hpo : w4.heap.size < wo.heap.size := by omega
   replace g0 := (hbW6.frozen (p := ⟨w.heap.size + 1 + 1, 0, none⟩) hzo).trans g0
   replace g1 := (hbW6.frozen (p := ⟨w.heap.size + 1 + 1, 1, none⟩) hzo).trans g1
   replace pf := (hbW6.frozen (p := ⟨w4.heap.size, 1, none⟩) hpo).trans pf
   have hbw6 := hbw.trans (hbW6.mono hbw.size)
   have hws6 := hbW6.size
   have hown6 := hown.keep hbW6
   have hlo := fun (p : Idn.Att × Value) (hp : p ∈ xs) g => own_lt (hown.2.1 p hp) (g := g)
   have hv6 : StrsV W6 W6.heap.size (.slice Ak vals.length ck2) vals := SlV.mono (SlV.keep hvk (hbW6.mono (by omega))) (by omega)
   have hsz9 : (B anm).size ≤ 1000000000 := by rw [Idn.size_B]; exact h5.1
   have hN6 := hNo W6 hbw6 (B anm) _ vals hv6 hsz9 (by omega) h5.2
   rw [Idn.L_B] at hN6
   have hok := fun h => eVals_ok (s := s) (a := anm) (l := vals) h
   generalize eVals s anm vals = ev at *
   obtain ⟨ex, ee⟩ := ev
   dsimp only at hok hN6
   clear hc6 hszW6 d0 d1 hvk hv6 hNo hown
   go_wp2_with fail
   refine hN6.mono ?_
   rintro e w7 ⟨v7, rfl, hown7, hb7⟩
   have hS7 : StrsV w7 w7.heap.size v7 ex := StrsV.of_own hown7
   obtain ⟨A7, c7, hv7⟩ := own_shape hown7
   subst hv7
   dsimp only at hown7 hS7
   replace q0 := cell_later hb7 q0
   replace q1 := cell_later hb7 q1
   replace p0 := cell_later hb7 p0
   replace p1 := cell_later hb7 p1
   replace z0 := cell_later hb7 z0
   replace z1 := cell_later hb7 z1
   replace a0 := cell_later hb7 a0
   have hz6 : w.heap.size + 1 + 1 < W6.heap.size := by omega
   have hp6 : w4.heap.size < W6.heap.size := by omega
   replace g0 := (hb7.frozen (p := ⟨w.heap.size + 1 + 1, 0, none⟩) hz6).trans g0
   replace g1 := (hb7.frozen (p := ⟨w.heap.size + 1 + 1, 1, none⟩) hz6).trans g1
   replace pf := (hb7.frozen (p := ⟨w4.heap.size, 1, none⟩) hp6).trans pf
   have hbw7 := hbw6.trans (hb7.mono hbw6.size)
   have hws7 := hb7.size
   have hown7' := hown6.keep hb7
   clear hN6 hown6 a1
   by_cases he : ee = 0
   case neg =>
    have hI : (ee != 0) = true := by simpa using he
    have HE : eAttsK s [] bl = ([], ee) := T1.out he
    have HF : Hid (r = (([], []), ee)) := by show _ = _; rw [HR.out, HE, if_pos hI]
    clear HR he T1 T2 T3 hok HE hown7 hown7' hS7
    go_wp2_with fail
    exact bodyPost_ret (v := .tuple #[.agg #[.string ⟨#[]⟩, .slice none 0 0], .int .i64 ee]) (by simp [results, Tryz.results17, go_sem, z0, z1, g0, g1]) rfl ⟨_, [], by rw [HF.out]; rfl, AttOwn.nil _ _, by rw [HF.out]; rfl, (hbw7.setCell (p := ⟨w.heap.size + 1 + 1, 0, none⟩) hzz _).setCell (p := ⟨w.heap.size + 1 + 1, 1, none⟩) hzz _⟩
   subst he
   obtain ⟨hel, hex⟩ := hok rfl
   have hexl : ex.length ≤ 16 := by omega
   have hTw := etwice_any _ ex w7 hS7 (by omega)
   have HEX : Hid (∀ x ∈ ex, x.length ≤ 256) := hex
   clear hok T1 hS7 hel hex
   cases hdu : dupK [] ex
   case true =>
    have HE : eAttsK s [] bl = ([], 7) := T2.out rfl hdu
    have HF : Hid (r = (([], []), 7)) := by show _ = _; rw [HR.out, HE]; rfl
    rw [hdu] at hTw
    clear HR T2 T3 HE hown7 hown7' hdu
    go_wp2_with fail
    refine hTw.mono ?_
    rintro e w8 ⟨rfl, hb8⟩
    have hz7 : w.heap.size + 1 + 1 < w7.heap.size := by omega
    replace z0 := cell_later hb8 z0
    replace z1 := cell_later hb8 z1
    replace g0 := (hb8.frozen (p := ⟨w.heap.size + 1 + 1, 0, none⟩) hz7).trans g0
    replace g1 := (hb8.frozen (p := ⟨w.heap.size + 1 + 1, 1, none⟩) hz7).trans g1
    have hbw8 := hbw7.trans (hb8.mono hbw7.size)
    go_wp2_with fail
    exact bodyPost_ret (v := .tuple #[.agg #[.string ⟨#[]⟩, .slice none 0 0], .int .i64 7]) (by simp [results, Tryz.results17, go_sem, z0, z1, g0, g1]) rfl ⟨_, [], by rw [HF.out]; rfl, AttOwn.nil _ _, by rw [HF.out]; rfl, (hbw8.setCell (p := ⟨w.heap.size + 1 + 1, 0, none⟩) hzz _).setCell (p := ⟨w.heap.size + 1 + 1, 1, none⟩) hzz _⟩
   have HE : Hid (eAttsK s [] bl = eAttsK s (xs.map (·.1) ++ [⟨anm, ex⟩]) (bl.drop (k + 1))) := T3.out rfl hdu
   rw [hdu] at hTw
   clear T2 T3 hdu
   go_wp2_with fail
   refine hTw.mono ?_
   rintro e w8 ⟨rfl, hb8⟩
   have hz7 : w.heap.size + 1 + 1 < w7.heap.size := by omega
   have hp7 : w4.heap.size < w7.heap.size := by omega
   replace a0 := cell_later hb8 a0
   replace p0 := cell_later hb8 p0
   replace p1 := cell_later hb8 p1
   replace pf := (hb8.frozen (p := ⟨w4.heap.size, 1, none⟩) hp7).trans pf
   have hown8 := hown7'.keep hb8
   have hu8 := own_below hown7 hb8
   have hu8' : w8.ownsRow W5.heap.size 9 1 (.slice A7 ex.length c7) ex.length (ex.map sv) := own_base hu8 (by omega)
   have hwb8 : W5.heap.size ≤ w8.heap.size := by have := hb8.size; omega
   have hb68 := hbW6.trans ((hb7.trans (hb8.mono hb7.size)).mono hbW6.size)
   have hap8 : ∀ p ∈ xs, ∀ g, (Value.slice A7 ex.length c7).ownBlock = some g → p.2.ownBlock ≠ some g := fun p hp g h1 h2 => by
    have e1 := hlo p hp g h2
    have e2 := (hown7.lt g h1).1
    omega
   obtain ⟨Ao, co, hov⟩ := own_shape hown8.1
   subst hov
   clear hTw hown7 hown7' hlo q0 q1 z0 z1 g0 g1
   go_wp2_with (at_builtin; refine wpList_push w8 rfl _ _ 22 rfl W5.heap.size 48 (.agg #[.string ⟨#[]⟩, .slice none 0 0]) 2 40 Tryz.underlying22 info_attr rfl (by decide) _ xs.length _ hown8.1 rfl [.string (B anm), .slice A7 ex.length c7] rfl rfl (by intro u hu; simp at hu; rcases hu with rfl | rfl <;> rfl) (by omega) hwb8 ?_ rfl)
   intro v9 w9 hown9 hg9 _ hb9 _
   have hA9 := hown8.add hown9 hg9 hu8' hap8
   have hlA := fun g => own_lt hown8.1 (g := g)
   have hp8 : w4.heap.size < w8.heap.size := by omega
   have hne9 : (Value.slice Ao xs.length co).ownBlock ≠ some w4.heap.size := fun e => by
    have := (hown8.1.lt _ e).1
    omega
   have blk := hg9.block w4.heap.size hp8 (fun e => hne9 e.symm)
   replace p0 : w9.cell? ⟨w4.heap.size, 0, none⟩ = some (.string (B cN)) := by rw [World.cell?_of_block (w := w8) blk]; exact p0
   replace p1 : w9.cell? ⟨w4.heap.size, 1, none⟩ = some (.slice Ao xs.length co) := by rw [World.cell?_of_block (w := w8) blk]; exact p1
   replace pf : w9.frozen? ⟨w4.heap.size, 1, none⟩ = false := by rw [← pf]; unfold World.frozen?; rw [blk]
   have hA10 := hA9.apart_box w4.heap.size 1 v9 hw45
   obtain ⟨A9, c9, hv9⟩ := own_shape hown9
   subst hv9
   have hb09 : Below w4.heap.size W5 w9 := (hb.trans (hb68.mono (by omega))).trans (hb9.mono (by omega))
   have hb10 := hb09.setCell (p := ⟨w4.heap.size, 1, none⟩) (Nat.le_refl _) (.slice A9 (xs.length + 1) c9)
   have HA := Lib.hid hA10
   have HXS : Hid (∀ a ∈ (xs ++ [((⟨anm, ex⟩ : Idn.Att), Value.slice A7 ex.length c7)]).map (·.1), a.vals.length ≤ 16 ∧ a.name.length ≤ 1000000000 ∧ ∀ x ∈ a.vals, x.length ≤ 256) := by
    show ∀ a ∈ _, _
    intro a ha
    rw [List.map_append] at ha
    rcases List.mem_append.1 ha with ha | ha
    ·exact hxs.out a ha
    ·simp at ha; subst ha; exact ⟨hexl, h5.1, HEX.out⟩
   have HE2 : Hid (eAttsK s [] bl = eAttsK s ((xs ++ [((⟨anm, ex⟩ : Idn.Att), Value.slice A7 ex.length c7)]).map (·.1)) (bl.drop (k + 1))) := by show _ = _; rw [List.map_append]; exact HE.out
   have HXL : Hid ((xs ++ [((⟨anm, ex⟩ : Idn.Att), Value.slice A7 ex.length c7)]).length = k + 1) := by show _ = _; rw [List.length_append, hxl.out]; rfl
   clear hA9 hA10 hown8 hown9 hu8 hu8' hap8 hlA hxs hxl HE hb68 hb9 hb8 hb7
   go_wp2_with fail
   go_roundw
   case rel => exact ⟨k + 1, _, _, by omega, by go_num, HA.out, hb10, by simp [go_sem, p0, p1], by simp [go_sem, p0, p1], by simp [go_sem, pf], HE2, HXL, HXS⟩
   case measure => simp [intOf]; omega
  ·have hltI : ¬ (k : Int) < (ps.length : Int) := by omega
   have HEX : eAttsK s [] bl = (xs.map (·.1), 0) := by rw [hinv.out, List.drop_eq_nil_of_le (by rw [HBL.out]; omega)]; rfl
   have hne := HFULL.out
   rw [HEX] at hne
   have hats := hown.atts rfl
   have hx7 : Idn.ASm7 (xs.map (·.1)) := ⟨by simp; omega, fun a ha => ⟨(hxs.out a ha).2.1, by have := (hxs.out a ha).1; omega, fun x hx => by have := (hxs.out a ha).2.2 x hx; omega⟩⟩
   have hS := sortedO_any ov (xs.map (·.1)) wo hats hx7 hne
   obtain ⟨hq1, hq2⟩ := aSorted_sm (l := xs.map (·.1)) (by simpa using hxk) hxs.out
   replace HR : Hid (r = if sValid s (Idn.aSorted (xs.map (·.1))) != 0 then (([], []), sValid s (Idn.aSorted (xs.map (·.1)))) else ((cN, Idn.aSorted (xs.map (·.1))), 0)) := by show _ = _; rw [HR.out, HEX]; rfl
   generalize Idn.aSorted (xs.map (·.1)) = sq at *
   obtain ⟨Ao, co, hov⟩ := own_shape hown.1
   subst hov
   have hpo : w4.heap.size < wo.heap.size := by omega
   have hzo : w.heap.size + 1 + 1 < wo.heap.size := by omega
   clear hinv HEX hne hx7 hats hown hNo hats5 hxs
   go_wp2_with fail
   refine hS.mono ?_
   rintro e w10 ⟨v10, ps10, rfl, hown10, hps10, hb10⟩
   obtain ⟨A10, c10, hv10⟩ := own_shape hown10.1
   subst hv10
   have HP10 := Lib.hid hps10
   replace q0 := cell_later hb10 q0
   replace q1 := cell_later hb10 q1
   replace p0 := cell_later hb10 p0
   replace p1 := cell_later hb10 p1
   replace z0 := cell_later hb10 z0
   replace z1 := cell_later hb10 z1
   replace g0 := (hb10.frozen (p := ⟨w.heap.size + 1 + 1, 0, none⟩) hzo).trans g0
   replace g1 := (hb10.frozen (p := ⟨w.heap.size + 1 + 1, 1, none⟩) hzo).trans g1
   replace pf := (hb10.frozen (p := ⟨w4.heap.size, 1, none⟩) hpo).trans pf
   have hbw10 := hbw.trans (hb10.mono hbw.size)
   have hsz10 := hb10.size
   clear hS hps10
   go_upto_region 21 with fail
   have hA11 := hown10.apart_box w4.heap.size 1 (.slice A10 ps10.length c10) hpo
   have hb11 := hbw10.setCell (p := ⟨w4.heap.size, 1, none⟩) (Nat.le_of_lt hwl) (.slice A10 ps10.length c10)
   have r0 : (w10.setCell ⟨w4.heap.size, 1, none⟩ (.slice A10 ps10.length c10)).cell? ⟨w.heap.size, 0, none⟩ = some (.slice A1 s.types.length c1) := by
    rw [World.cell?_setCell_other _ _ _ _ (by intro e; injection e with e; omega)]; exact q0
   have r1 : (w10.setCell ⟨w4.heap.size, 1, none⟩ (.slice A10 ps10.length c10)).cell? ⟨w.heap.size, 1, none⟩ = some (.slice A2 s.classes.length c2) := by
    rw [World.cell?_setCell_other _ _ _ _ (by intro e; injection e with e; omega)]; exact q1
   have s0 : (w10.setCell ⟨w4.heap.size, 1, none⟩ (.slice A10 ps10.length c10)).cell? ⟨w.heap.size + 1 + 1, 0, none⟩ = some (.string ⟨#[]⟩) := by
    rw [World.cell?_setCell_other _ _ _ _ (by intro e; injection e with e; omega)]; exact z0
   have s1 : (w10.setCell ⟨w4.heap.size, 1, none⟩ (.slice A10 ps10.length c10)).cell? ⟨w.heap.size + 1 + 1, 1, none⟩ = some (.slice none 0 0) := by
    rw [World.cell?_setCell_other _ _ _ _ (by intro e; injection e with e; omega)]; exact z1
   have o0' : (w10.setCell ⟨w4.heap.size, 1, none⟩ (.slice A10 ps10.length c10)).cell? ⟨w4.heap.size, 0, none⟩ = some (.string (B cN)) := by
    rw [World.cell?_setCell_other _ _ _ _ (by intro e; injection e with e1 e2; omega)]; exact p0
   have o1' : (w10.setCell ⟨w4.heap.size, 1, none⟩ (.slice A10 ps10.length c10)).cell? ⟨w4.heap.size, 1, none⟩ = some (.slice A10 ps10.length c10) := World.cell?_setCell_same _ _ _ p1
   have f0 : (w10.setCell ⟨w4.heap.size, 1, none⟩ (.slice A10 ps10.length c10)).frozen? ⟨w.heap.size + 1 + 1, 0, none⟩ = false := by simpa using g0
   have f1 : (w10.setCell ⟨w4.heap.size, 1, none⟩ (.slice A10 ps10.length c10)).frozen? ⟨w.heap.size + 1 + 1, 1, none⟩ = false := by simpa using g1
   have hsz11 : (w10.setCell ⟨w4.heap.size, 1, none⟩ (.slice A10 ps10.length c10)).heap.size = w10.heap.size := by simp
   have hws11 : w.heap.size + 1 + 1 < (w10.setCell ⟨w4.heap.size, 1, none⟩ (.slice A10 ps10.length c10)).heap.size := by omega
   have hws12 : w4.heap.size < (w10.setCell ⟨w4.heap.size, 1, none⟩ (.slice A10 ps10.length c10)).heap.size := by omega
   clear q0 q1 z0 z1 p0 p1 g0 g1 pf hsz11 hown10 hb10
   generalize w10.setCell ⟨w4.heap.size, 1, none⟩ (.slice A10 ps10.length c10) = W11 at *
   have hVl := hVd W11 hb11 (B cN) _ sq (hA11.atts HP10.out) hq1 hq2
   generalize sValid s sq = se at *
   clear hVd
   go_wp2_with fail
   refine hVl.mono ?_
   rintro e w12 ⟨rfl, hb12⟩
   replace s0 := cell_later hb12 s0
   replace s1 := cell_later hb12 s1
   replace o0' := cell_later hb12 o0'
   replace o1' := cell_later hb12 o1'
   replace f0 := (hb12.frozen (p := ⟨w.heap.size + 1 + 1, 0, none⟩) hws11).trans f0
   replace f1 := (hb12.frozen (p := ⟨w.heap.size + 1 + 1, 1, none⟩) hws11).trans f1
   have hbw12 := hb11.trans (hb12.mono hb11.size)
   have hA12 := hA11.keep hb12
   clear hVl r0 r1 hA11
   by_cases hse : se = 0
   ·subst hse
    have HF : Hid (r = ((cN, sq), 0)) := by show _ = _; rw [HR.out]; rfl
    have hA13 := (hA12.apart_box (w.heap.size + 1 + 1) 0 (.string (B cN)) hzo).apart_box (w.heap.size + 1 + 1) 1 (.slice A10 ps10.length c10) hzo
    have HA13 := Lib.hid (hA13.base hbw.size)
    clear HR hA12 hA13
    go_wp2_with fail
    exact bodyPost_ret (v := .tuple #[.agg #[.string (B cN), .slice A10 ps10.length c10], .int .i64 0]) (by simp [results, Tryz.results17, go_sem, s0, s1, f0, f1]) rfl ⟨_, _, by rw [HF.out], HA13.out, by rw [HF.out]; exact HP10.out, (hbw12.setCell (p := ⟨w.heap.size + 1 + 1, 0, none⟩) hzz _).setCell (p := ⟨w.heap.size + 1 + 1, 1, none⟩) hzz _⟩
   ·have hI : (se != 0) = true := by simpa using hse
    have HF : Hid (r = (([], []), se)) := by show _ = _; rw [HR.out, if_pos hI]
    clear HR hA12 hse
    go_wp2_with fail
    exact bodyPost_ret (v := .tuple #[.agg #[.string ⟨#[]⟩, .slice none 0 0], .int .i64 se]) (by simp [results, Tryz.results17, go_sem, s0, s1, f0, f1]) rfl ⟨_, [], by rw [HF.out]; rfl, AttOwn.nil _ _, by rw [HF.out]; rfl, (hbw12.setCell (p := ⟨w.heap.size + 1 + 1, 0, none⟩) hzz _).setCell (p := ⟨w.heap.size + 1 + 1, 1, none⟩) hzz _⟩
end Go.Proofs.YtoopoglkeeoamaaGreatDoor
/- entry: Text, walked. -/
namespace Go.Proofs.YtoopoglkeeoamaaGreatDoor
open Go.RowKit Go.Sort
open Idn (L B Bs drop_L take_L size_L)
theorem eText_unf (n : Bs) (l : List Idn.Att) : eText n l = if eCheck n l != 0 then ([], eCheck n l) else (eLine entryN n ++ eBody (Idn.aSorted l), 0) := rfl
def eVs (a : Bs) (l : List Bs) : Bs := l.flatMap fun v => eLine a v
theorem eBody_take (l : List Idn.Att) (k : Nat) (hk : k < l.length) : eBody (l.take (k + 1)) = eBody (l.take k) ++ eVs l[k].name l[k].vals := by
 unfold eBody eVs
 rw [List.take_succ_eq_append_getElem hk, List.flatMap_append]; simp
theorem eVs_take (a : Bs) (l : List Bs) (k : Nat) (hk : k < l.length) : eVs a (l.take (k + 1)) = eVs a (l.take k) ++ eLine a l[k] := by
 unfold eVs
 rw [List.take_succ_eq_append_getElem hk, List.flatMap_append]; simp
theorem eLine_len (a v : Bs) (ha : a.length ≤ 1000000000) (hv : v.length ≤ 1000000000) : (eLine a v).length ≤ 5000000000 := by
 have := esc_len v
 unfold eLine
 simp; omega
theorem eLine_small (a v : Bs) (ha : a.length ≤ 64) (hv : v.length ≤ 256) : (eLine a v).length ≤ 1000 := by
 have := esc_len v
 unfold eLine
 simp; omega
theorem eVs_len (a : Bs) (l : List Bs) (ha : a.length ≤ 64) (hl : ∀ v ∈ l, v.length ≤ 256) : (eVs a l).length ≤ l.length * 1000 :=
 flat_len8 _ _ l fun v hv => eLine_small a v ha (hl v hv)
theorem eBody_len (l : List Idn.Att) (h : ∀ a ∈ l, a.name.length ≤ 64 ∧ a.vals.length ≤ 1000 ∧ ∀ x ∈ a.vals, x.length ≤ 256) : (eBody l).length ≤ l.length * 1000000 :=
 flat_len8 _ _ l fun a ha => by
  obtain ⟨g1, g2, g3⟩ := h a ha
  have h2 := eVs_len a.name a.vals g1 g3
  unfold eVs at h2
  omega
theorem own_others {w w' : World} {base : Nat} {e : TypeId} {size : Nat} {v : Value} {n : Nat} {xs : List Value} {b : Nat} (h : w.ownsRow base e size v n xs) (ho : Lib.OthersKept 5 (some b) w w') (hne : e ≠ 5) (hb : b < base) : w'.ownsRow base e size v n xs := by
 refine ⟨h.1, ?_⟩
 rcases h.2 with hn | ⟨g, cap, cur, hv, hbg, hgg, rest⟩
 ·exact .inl hn
 ·exact .inr ⟨g, cap, cur, hv, hbg, ho g _ hgg (fun e => by injection e with e; omega) (fun c fz e2 => by injection e2 with _ e2; exact hne e2), rest⟩
theorem AttOwn.others {w w' : World} {base : Nat} {v : Value} {ps : List (Idn.Att × Value)} {b : Nat} (h : AttOwn w base v ps) (ho : Lib.OthersKept 5 (some b) w w') (hb : b < base) : AttOwn w' base v ps :=
 ⟨own_others h.1 ho (by decide) hb, fun p hp => own_others (h.2.1 p hp) ho (by decide) hb, h.2.2⟩
theorem eText_any (n : ByteArray) (a : Value) (l : List Idn.Att) (w : World) (hv : AttsV w w.heap.size a l) (hn : n.size ≤ 1000000000) (hs : ASm l) :
    Calls Tryz.prog 23 #[.agg #[.string n, a]] w fun e w' => e = .returned (.tuple #[.string (B (eText (L n) l).1), .int .i64 (eText (L n) l).2]) ∧ Below w.heap.size w w' := by
  have hA := fun W (hW : Below w.heap.size w W) => AttsV.mono (AttsV.keep hv hW) hW.size
  have hC := fun W (hW : Below w.heap.size w W) => eCheck_any n a l W (hA W hW) hn hs
  have hSo := fun h1 h2 W (hW : Below w.heap.size w W) => sortedO_any a l W (hA W hW) h1 h2
  have hEs := fun W => escape_any n W hn
  have HR := Lib.hid (eText_unf (L n) l)
  have hck := fun h => eCheck_zero (n := L n) (l := l) h
  obtain ⟨A, c, rfl, hc⟩ := SlV.shape hv
  generalize eText (L n) l = r at *
  generalize eCheck (L n) l = k0 at *
  clear hA hv
  go_enter Tryz.func23, Tryz.ntmps23
  go_upto_region 1 with fail
  with_reducible refine gen1 (R := fun W => Code.wp Tryz.prog _ _ _ W) ?_
  intro W hbW hszW hc1 _
  have a0 : W.cell? ⟨w.heap.size, 0, none⟩ = some (.string n) := hc1 0 _ rfl
  have a1 : W.cell? ⟨w.heap.size, 1, none⟩ = some (.slice A l.length c) := hc1 1 _ rfl
  clear hc1
  go_wp2_with fail
  refine (hC W hbW).mono ?_
  rintro e w1 ⟨rfl, hb1⟩
  have hbw1 := hbW.trans (hb1.mono hbW.size)
  by_cases hk0 : k0 = 0
  case neg =>
    have hI : (k0 != 0) = true := by simpa using hk0
    have HF : Hid (r = ([], k0)) := by show _ = _; rw [HR.out, if_pos hI]
    clear HR hC hSo hEs hck hk0
    go_wp2_with fail
    go_ret2
    exact ⟨by rw [HF.out]; rfl, hbw1⟩
  subst hk0
  have HR2 : Hid (r = (eLine entryN (L n) ++ eBody (Idn.aSorted l), 0)) := by show _ = _; rw [HR.out]; rfl
  have hac := hck rfl
  obtain ⟨hl32, hv16⟩ := aCheck_zero hac
  have h7 : Idn.ASm7 l := ⟨by omega, fun a ha => ⟨(hs.2 a ha).1, by have := (hv16 a ha).2; omega, (hs.2 a ha).2.2⟩⟩
  have hSo2 := hSo h7 (fun a ha => (hv16 a ha).1)
  have hsz : ∀ a ∈ Idn.aSorted l, a.name.length ≤ 64 ∧ a.vals.length ≤ 1000 ∧ ∀ x ∈ a.vals, x.length ≤ 256 := fun a ha => by
    obtain ⟨b, hb, rfl⟩ := Idn.aSorted_from ha
    have h1 := Idn.grp_le 16 l [] 0 (by simp) (fun a ha => (hv16 a ha).2) b hb
    have h2 := Idn.grp_all (p := fun x => x.length ≤ 256) l [] (by simp) (fun a ha x hx => clean_len (aCheck_clean hac a ha x hx)) b hb
    have h3 := Lib.compact_length_le (Idn.srt b.vals)
    have h4 : (Idn.srt b.vals).length = b.vals.length := by simp [Idn.srt]
    refine ⟨?_, ?_, fun x hx => h2 x (Idn.srt_mem (compact_mem hx))⟩
    · have hn : b.name ∈ (Idn.grp [] l).map (·.name) := List.mem_map.2 ⟨b, hb, rfl⟩
      rw [Idn.grp_names] at hn
      rcases hn with hn | hn
      · simp at hn
      · obtain ⟨a, ha, e⟩ := List.mem_map.1 hn
        show b.name.length ≤ _
        rw [← e, Idn.length_lower]
        exact name_len ((Idn.aCheck_all hac).2.2 a ha).1
    · show (Lib.compact (Idn.srt b.vals)).length ≤ _
      have : l.length * 16 ≤ 32 * 16 := Nat.mul_le_mul_right _ hl32
      omega
  have hsl : (Idn.aSorted l).length ≤ 32 := by
    have h1 := aSorted_len l
    have h2 := grp_len l []
    simp at h2
    omega
  replace a0 := cell_later hb1 a0
  replace a1 := cell_later hb1 a1
  have hB0 := Bld.new w1
  have hws1 := hb1.size
  have hltw : w.heap.size < w1.heap.size := by omega
  clear HR hC hck hSo h7 hl32 hv16 hb1 hszW hs hac
  generalize Idn.aSorted l = sl at *
  go_upto_region 5 with fail
  with_reducible refine genW (R := fun W => Code.wp Tryz.prog _ _ _ W) (Q := fun W => Below w1.heap.size w1 W ∧ Bld w1.heap.size w1.heap.size [] W ∧ w1.heap.size < W.heap.size) ⟨(Below.refl _ _).alloc (Nat.le_refl _) _, hB0, by simp⟩ ?_
  rintro W2 ⟨hbW2, hB2, hszW2⟩
  replace a0 := cell_later hbW2 a0
  replace a1 := cell_later hbW2 a1
  clear hB0
  have el := esc_len (L n)
  have hnL : (L n).length ≤ 1000000000 := by rw [← size_L]; exact hn
  have add1 := fun W => run_add (P := Tryz.prog) (a := [101, 110, 116, 114, 121, 32]) (b := esc (L n)) (s := ⟨#[101, 110, 116, 114, 121, 32]⟩) (t := B (esc (L n))) rfl rfl (by simp; omega) W
  have add2 := fun W => run_add (P := Tryz.prog) (a := [101, 110, 116, 114, 121, 32] ++ esc (L n)) (b := [10]) (s := B ([101, 110, 116, 114, 121, 32] ++ esc (L n))) (t := ⟨#[10]⟩) rfl rfl (by simp; omega) W
  have hline : [101, 110, 116, 114, 121, 32] ++ esc (L n) ++ [10] = eLine entryN (L n) := by unfold eLine entryN; simp
  rw [hline] at add2
  have hll := eLine_len entryN (L n) (by decide) hnL
  clear hline
  generalize [101, 110, 116, 114, 121, 32] ++ esc (L n) = xe at *
  generalize eLine entryN (L n) = l0 at *
  generalize esc (L n) = en at *
  go_wp2_with fail
  refine (hEs W2).mono ?_
  rintro e w3 ⟨rfl, hb3⟩
  replace a0 := cell_later hb3 a0
  replace a1 := cell_later hb3 a1
  have hb13 := hbW2.trans (hb3.mono hbW2.size)
  have hWS := writeString_any w1.heap.size w1.heap.size [] (B l0) w3 (hB2.keep hb3) (by rw [Idn.size_B]; simp; omega) hb13.size
  clear hEs hB2
  go_wp2_with fail
  refine hWS.mono ?_
  rintro e w4 ⟨rfl, hB4, hb4, _⟩
  have hb14 := hb13.trans hb4
  have hws4 : w1.heap.size < w4.heap.size := by have := hb3.size; have := hb4.size; omega
  replace hB4 : Bld w1.heap.size w1.heap.size (Lib.byteCells (l0 ++ eBody (sl.take 0))) w4 := by
    rw [strCells_B] at hB4
    simpa [eBody] using hB4
  replace a1 := (hb4.cell (p := ⟨w.heap.size, 1, none⟩) hltw).trans a1
  have hbw4 := hbw1.trans (hb14.mono hbw1.size)
  clear hWS add1 add2 hb3 a0 hb4
  go_wp2_with fail
  refine (hSo2 w4 hbw4).mono ?_
  rintro e w5 ⟨v5, ps5, rfl, hown5, hps5, hb5⟩
  obtain ⟨A5, c5, hv5⟩ := own_shape hown5.1
  subst hv5
  have hpl : ps5.length = sl.length := by rw [← hps5, List.length_map]
  have HPL := Lib.hid hpl
  have HPS := Lib.hid hps5
  have hB5 := hB4.keep hb5
  have hb15 := hb14.trans (hb5.mono hb14.size)
  have hws5 : w4.heap.size ≤ w5.heap.size := hb5.size
  have hsz5 : ∀ (i : Nat) (q : Idn.Att × Value), ps5[i]? = some q → q.1.name.length ≤ 64 ∧ q.1.vals.length ≤ 1000 ∧ ∀ x ∈ q.1.vals, x.length ≤ 256 := fun i q hq => hsz q.1 (by rw [← hps5]; exact List.mem_map.2 ⟨q, List.mem_of_getElem? hq, rfl⟩)
  have hnm5 : ∀ (i : Nat) (q : Idn.Att × Value) (h : i < sl.length), ps5[i]? = some q → sl[i] = q.1 := fun i q h hq => by
    have h1 : (ps5.map (·.1))[i]? = some q.1 := by rw [List.getElem?_map, hq]; rfl
    rw [hps5, List.getElem?_eq_getElem h] at h1
    injection h1
  have hbd : ∀ k, (eBody (sl.take k)).length ≤ 32000000 := fun k => by
    have h1 := eBody_len (sl.take k) fun a ha => hsz a (List.mem_of_mem_take ha)
    have h2 : (sl.take k).length ≤ 32 := by rw [List.length_take]; omega
    have h3 : (sl.take k).length * 1000000 ≤ 32 * 1000000 := Nat.mul_le_mul_right _ h2
    omega
  have HSZ := Lib.hid hsz5
  have HNM := Lib.hid hnm5
  clear hSo2 hB4 hps5 hpl a1 hsz5 hnm5 hsz
  go_wp2_with fail
  go_loopw [25] (fun i wr => ∃ k : Nat, k ≤ ps5.length ∧ i = .int .i64 k ∧ Below w1.heap.size w5 wr ∧ AttOwn wr w4.heap.size (.slice A5 ps5.length c5) ps5 ∧ Bld w1.heap.size w1.heap.size (Lib.byteCells (l0 ++ eBody (sl.take k))) wr) (fun i _ => ps5.length - (intOf i).toNat)
  case atStart => exact ⟨0, Nat.zero_le _, rfl, Below.refl _ _, hown5, hB5⟩
  case round =>
    obtain ⟨k, hk, rfl, hb, hown, hB⟩ := hrel
    clear hown5 hB5
    have hbt := hb15.trans hb
    have hwr1 := hbt.size
    by_cases hlt : k < ps5.length
    · have hlts : k < sl.length := by have := HPL.out; omega
      obtain ⟨g, hA5, hcell⟩ := own_open hown.1 (by omega)
      subst hA5
      obtain ⟨q, hq⟩ : ∃ q, ps5[k]? = some q := ⟨_, List.getElem?_eq_getElem hlt⟩
      obtain ⟨r0, r1⟩ := rowA_at ps5 k q hq
      have d0 := hcell _ _ r0
      have d1 := hcell _ _ r1
      have hoq := hown.2.1 q (List.mem_of_getElem? hq)
      have hslk := HNM.out k q hlts hq
      obtain ⟨y1, y2, y3⟩ := HSZ.out k q hq
      have hstep := eBody_take sl k hlts
      rw [hslk] at hstep
      have hbk := hbd k
      obtain ⟨⟨qn, qv⟩, qu⟩ := q
      obtain ⟨Aq, cq, hqu⟩ := own_shape hoq
      dsimp only at d0 d1 hoq hstep y1 y2 y3 hqu
      subst hqu
      unfold sv at d0
      have HST := Lib.hid hstep
      have hltI : (k : Int) < (ps5.length : Int) := by omega
      clear hcell r0 r1 hslk hstep hoq
      obtain ⟨wo, hwo⟩ : ∃ wo : World, wo = wr := ⟨_, rfl⟩
      subst hwo
      have hpre : (l0 ++ eBody (sl.take k)).length ≤ 6000000000 := by rw [List.length_append]; omega
      have HPR := Lib.hid (show l0 ++ eBody (sl.take (k + 1)) = (l0 ++ eBody (sl.take k)) ++ eVs qn qv by rw [HST.out, List.append_assoc])
      generalize l0 ++ eBody (sl.take k) = pre at *
      obtain ⟨pre2, hpre2⟩ : ∃ p, p = l0 ++ eBody (sl.take (k + 1)) := ⟨_, rfl⟩
      have HP2 := Lib.hid hpre2
      rw [← hpre2] at HPR
      clear hpre2
      go_upto_region 9 with fail
      with_reducible refine genW (R := fun W => Code.wp Tryz.prog _ _ _ W) (Q := fun W => Below wo.heap.size wo W ∧ W.heap[wo.heap.size]? = some (.cells #[.string (B qn), .slice Aq qv.length cq] 48)) ⟨(Below.refl _ _).alloc (Nat.le_refl _) _, heap_alloc_new _ _⟩ ?_
      rintro W6 ⟨hbW6, hq6⟩
      have hown6 := hown.keep hbW6
      have hB6 := hB.keep hbW6
      have hb6 : Below w1.heap.size w5 W6 := hb.trans (hbW6.mono hwr1)
      have v1 : W6.cell? ⟨wo.heap.size, 1, none⟩ = some (.slice Aq qv.length cq) := cell_of_row _ _ 1 _ _ (0, 0) hq6
      have hqo : w1.heap.size < wo.heap.size := by have := hb.size; omega
      clear hown hB hb hbW6 d0 d1 HST hbk
      go_wp2_with fail
      go_loopw [32] (fun i wi => ∃ j : Nat, j ≤ qv.length ∧ i = .int .i64 j ∧ Below w1.heap.size w5 wi ∧ AttOwn wi w4.heap.size (.slice (some ⟨g, 0, none⟩) ps5.length c5) ps5 ∧ Bld w1.heap.size w1.heap.size (Lib.byteCells (pre ++ eVs qn (qv.take j))) wi ∧ wi.heap[wo.heap.size]? = some (.cells #[.string (B qn), .slice Aq qv.length cq] 48)) (fun i _ => qv.length - (intOf i).toNat)
      case atStart => exact ⟨0, Nat.zero_le _, rfl, hb6, hown6, by simpa [eVs] using hB6, hq6⟩
      case round =>
        obtain ⟨j, hj, rfl, hbi, howni, hBi, hqi⟩ := hrel
        obtain ⟨wi, hwi⟩ : ∃ wi : World, wi = wr := ⟨_, rfl⟩
        subst hwi
        clear hown6 hB6 hq6 v1 hb6
        have hbti := hb15.trans hbi
        by_cases hjl : j < qv.length
        · obtain ⟨gq, hAq, hcq⟩ := own_open (howni.2.1 _ (List.mem_of_getElem? hq)) (by show 0 < qv.length; omega)
          have e0 : wi.cell? ⟨gq, j, none⟩ = some (.string (B qv[j])) := hcq j _ (by rw [List.getElem?_map, List.getElem?_eq_getElem hjl]; rfl)
          subst hAq
          have hjI : (j : Int) < (qv.length : Int) := by omega
          have hxl := y3 qv[j] (List.getElem_mem hjl)
          have hel := esc_len qv[j]
          have hEs2 := fun W => escape_any (B qv[j]) W (by rw [Idn.size_B]; omega)
          simp only [Idn.L_B] at hEs2
          have hvs := eVs_take qn qv j hjl
          have hvl : (eVs qn (qv.take j)).length ≤ 1000000 := by
            have h1 := eVs_len qn (qv.take j) y1 (fun v hv => y3 v (List.mem_of_mem_take hv))
            have h2 : (qv.take j).length ≤ 1000 := by rw [List.length_take]; omega
            omega
          have hll2 := eLine_small qn qv[j] y1 hxl
          have hline : qn ++ [32] ++ esc qv[j] ++ [10] = eLine qn qv[j] := by unfold eLine; simp
          have add1 := fun W => run_add (P := Tryz.prog) (a := qn) (b := [32]) (s := B qn) (t := ⟨#[32]⟩) rfl rfl (by simp; omega) W
          have add2 := fun W => run_add (P := Tryz.prog) (a := qn ++ [32]) (b := esc qv[j]) (s := B (qn ++ [32])) (t := B (esc qv[j])) rfl rfl (by simp; omega) W
          have add3 := fun W => run_add (P := Tryz.prog) (a := qn ++ [32] ++ esc qv[j]) (b := [10]) (s := B (qn ++ [32] ++ esc qv[j])) (t := ⟨#[10]⟩) rfl rfl (by simp; omega) W
          rw [hline] at add3
          generalize qn ++ [32] ++ esc qv[j] = x2 at *
          generalize qn ++ [32] = x1 at *
          have HVS := Lib.hid (show pre ++ eVs qn (qv.take (j + 1)) = (pre ++ eVs qn (qv.take j)) ++ eLine qn qv[j] by rw [hvs, List.append_assoc])
          have hpl2 : (pre ++ eVs qn (qv.take j)).length + (eLine qn qv[j]).length ≤ 100000000000 := by rw [List.length_append]; omega
          have hdr : Below wi.heap.size wi wi.drew := (Below.refl _ _).drew
          have hBd : Bld w1.heap.size w1.heap.size (Lib.byteCells (pre ++ eVs qn (qv.take j))) wi.drew := hBi.keep hdr
          have c0 : wi.drew.cell? ⟨wo.heap.size, 0, none⟩ = some (.string (B qn)) := cell_later hdr (cell_of_row _ _ 0 _ _ (0, 0) hqi)
          have hwid : w1.heap.size ≤ wi.drew.heap.size := hbti.size
          clear hvs hvl hline hll2 hxl hel hcq hBi
          generalize pre ++ eVs qn (qv.take j) = p1 at *
          generalize eLine qn qv[j] = ln at *
          generalize esc qv[j] = ev at *
          generalize B qv[j] = bq at *
          go_wp2_with fail
          go_region_law (first
            | (go_simp
               go_at_call 63
               refine (hEs2 _).mono ?_
               rintro e wE ⟨rfl, hbE⟩
               have c0E := cell_later hbE c0
               have hBE := hBd.keep hbE
               have hwE : w1.heap.size ≤ wE.heap.size := Nat.le_trans hwid hbE.size
               go_wp2_with fail)
            | (go_simp
               go_at_call 62
               refine (writeString_any w1.heap.size w1.heap.size (Lib.byteCells p1) (B ln) _ hBE (by rw [byteCells_len, Idn.size_B]; omega) hwE).mono ?_
               rintro e wS ⟨rfl, hBS, hbS, hoS⟩
               go_wp2_with fail))
          all_goals
            have hownE := (howni.keep hdr).keep hbE
            have hownS := hownE.others hoS hws4
            have hqE : wE.heap[wo.heap.size]? = some (.cells #[.string (B qn), .slice (some ⟨gq, 0, none⟩) qv.length cq] 48) := (hbE.block _ (Array.getElem?_eq_some_iff.1 hqi).1).trans hqi
            have hqS := hoS _ _ hqE (fun e => by injection e with e; omega) (fun c fz e2 => by injection e2 with _ e2; exact absurd e2 (by decide))
            have hbS5 : Below w1.heap.size w5 wS := ((hbi.trans (hdr.mono hwid)).trans (hbE.mono hwid)).trans hbS
            have hBS2 : Bld w1.heap.size w1.heap.size (Lib.byteCells (pre ++ eVs qn (qv.take (j + 1)))) wS := by rw [HVS.out, byteCells_app, ← strCells_B]; exact hBS
            clear hownE hqE hBS hoS
            go_wp2_with fail
            go_roundw
            case rel => exact ⟨j + 1, by omega, by go_num, hbS5, hownS, hBS2, hqS⟩
            case measure => simp [intOf]; omega
        · have hjI : ¬ (j : Int) < (qv.length : Int) := by omega
          have hBo : Bld w1.heap.size w1.heap.size (Lib.byteCells pre2) wi := by rw [HPR.out, ← List.take_of_length_le (l := qv) (i := j) (by omega)]; exact hBi
          clear hBi hqi
          go_wp2_with fail
          go_roundw
          case rel => exact ⟨k + 1, by omega, by go_num, hbi, howni, by rw [← HP2.out]; exact hBo⟩
          case measure => simp [intOf]; omega
    · have hltI : ¬ (k : Int) < (ps5.length : Int) := by omega
      have hts : sl.take k = sl := List.take_of_length_le (by have := HPL.out; omega)
      rw [hts] at hB
      have hStr := Tryz.Builder_String_any_k w1.heap.size w1.heap.size (l0 ++ eBody sl) wr hB hwr1
      have HF : Hid (r = (l0 ++ eBody sl, 0)) := HR2.out
      clear hts HR2
      generalize l0 ++ eBody sl = fin at *
      go_wp2_with fail
      refine hStr.mono ?_
      rintro e w9 ⟨rfl, _, hb9, _⟩
      go_wp2
      go_ret2
      exact ⟨by rw [HF.out]; rfl, hbw1.trans ((hbt.trans hb9).mono hbw1.size)⟩
end Go.Proofs.YtoopoglkeeoamaaGreatDoor
