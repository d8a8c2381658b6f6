/- Part 40 of the proof that the statements of identitylaw09 on matching hold at all arguments: the package variables hold what the program lays; nothing else is asked. -/
import Derived.Test.YtmamnmjfbadiiaaGreatDoorFz38
set_option linter.unusedVariables false
set_option linter.unusedSimpArgs false
set_option maxRecDepth 100000
set_option maxHeartbeats 16000000
/- filter: comparison, check, Check. -/
namespace Go.Proofs.YtmamnmjfbadiiaaGreatDoor
open Go.RowKit Go.Sort
open Idn (L B Bs drop_L take_L size_L)
theorem fcomp_any (k : Int) (w : World) : Calls Tryz.prog 46 #[.int .i64 k] w fun e w' => e = .returned (.bool (isCmp k)) ∧ w = w' := by
 have HP : Hid (isCmp k = (decide (4 ≤ k) && decide (k ≤ 8))) := rfl
 by_cases h4 : 4 ≤ k
 ·by_cases h8 : k ≤ 8
  ·have HF : Hid (isCmp k = true) := by show _ = _; rw [HP.out, decide_eq_true h4, decide_eq_true h8]; rfl
   go_enter Tryz.func46, Tryz.ntmps46
   go_wp2_with fail
   go_ret
   exact ⟨ret_bool HF.out.symm, rfl⟩
  ·have HF : Hid (isCmp k = false) := by show _ = _; rw [HP.out, decide_eq_true h4, decide_eq_false h8]; rfl
   go_enter Tryz.func46, Tryz.ntmps46
   go_wp2_with fail
   go_ret
   exact ⟨ret_bool HF.out.symm, rfl⟩
 ·have HF : Hid (isCmp k = false) := by show _ = _; rw [HP.out, decide_eq_false h4]; rfl
  go_enter Tryz.func46, Tryz.ntmps46
  go_wp2_with fail
  go_ret
  exact ⟨ret_bool HF.out.symm, rfl⟩
theorem nodeErr_unf (f : Flt) : nodeErr f = if ownErr f.kind f.name f.value f.parts f.kids.length != 0 then ownErr f.kind f.name f.value f.parts f.kids.length else nodeErrs f.kids := by cases f; rfl
theorem nodeErrs_step {l : List Flt} {k : Nat} (h : k < l.length) : nodeErrs (l.drop k) = if nodeErr l[k] != 0 then nodeErr l[k] else nodeErrs (l.drop (k + 1)) := by
 rw [List.drop_eq_getElem_cons h, nodeErrs]
theorem fcheck_any : ∀ (d : Nat) (v : Value) (f : Flt) (w : World), FltV w w.heap.size d v f → FSm 1000 f →
  Calls Tryz.prog 35 #[v] w fun e w' => e = .returned (.int .i64 (nodeErr f)) ∧ Below w.heap.size w w' := by
 intro d
 induction d using Nat.strongRecOn with
 | _ d ih =>
 intro v f w hv hs
 obtain ⟨Ap, cp, Ak, ck, rfl, hp, hk⟩ := hv.shape
 have hks := hs.kids
 have hkl := hks.len
 obtain ⟨o1, o2, o3, o4⟩ := fOk_own hs.2
 have kF := fun W (hW : Below w.heap.size w W) => formed_any _ f d W (hv.on hW) (by omega)
 have kC := fun W => fcomp_any f.kind W
 have kN := fun W => name_any (B f.name) W (by rw [Idn.size_B]; omega)
 have kL := fun W => clean_any (B f.value) W (by rw [Idn.size_B]; omega)
 have kP := fun W (hW : Below w.heap.size w W) => hasF_any 63 #[] fn_fcheck1 (fun s => !prtF s) _ f.parts W (SlV.mono (SlV.keep hp hW) hW.size) (by omega) fun W' x hx _ => fcheck1_any x W' (by have := o4 x hx; omega)
 simp only [Idn.L_B] at kN kL
 have HE : Hid (nodeErr f = if ownErr f.kind f.name f.value f.parts f.kids.length != 0 then ownErr f.kind f.name f.value f.parts f.kids.length else nodeErrs f.kids) := nodeErr_unf f
 have HO : Hid (ownErr f.kind f.name f.value f.parts f.kids.length = if !formF f.kind f.name f.value f.parts f.kids.length then 4 else if isCmp f.kind then (if !Idn.name f.name then 5 else if (decide (f.kind ≤ 6) && !Idn.clean f.value) || f.parts.any fun s => !prtF s then 8 else 0) else 0) := rfl
 have HC : Hid (isCmp f.kind = true ↔ 4 ≤ f.kind ∧ f.kind ≤ 8) := by show _ ↔ _; simp [isCmp]
 generalize ownErr f.kind f.name f.value f.parts f.kids.length = oe at *
 generalize formF f.kind f.name f.value f.parts f.kids.length = r1 at *
 generalize isCmp f.kind = r5 at *
 generalize Idn.name f.name = r2 at *
 generalize Idn.clean f.value = r3 at *
 generalize (f.parts.any fun s => !prtF s) = r4 at *
 generalize nodeErr f = ne at *
 generalize f.kind = kd at *
 clear hp hv o1 o2 o3 o4
 cases r1
 ·have HF : Hid (ne = 4) := by show _ = _; rw [HE.out, HO.out]; rfl
  clear HE HO HC kC kN kL kP ih hk
  go_enter Tryz.func35, Tryz.ntmps35
  go_upto_region 1 with fail
  with_reducible refine gen1 (R := fun W => Code.wp Tryz.prog _ _ _ W) ?_
  intro W hbW hszW hc _
  have b0 : W.cell? ⟨w.heap.size, 0, none⟩ = some (.int .i64 kd) := hc 0 _ rfl
  have b1 : W.cell? ⟨w.heap.size, 1, none⟩ = some (.string (B f.name)) := hc 1 _ rfl
  have b2 : W.cell? ⟨w.heap.size, 2, none⟩ = some (.string (B f.value)) := hc 2 _ rfl
  have b3 : W.cell? ⟨w.heap.size, 3, none⟩ = some (.slice Ap f.parts.length cp) := hc 3 _ rfl
  have b4 : W.cell? ⟨w.heap.size, 4, none⟩ = some (.slice Ak f.kids.length ck) := hc 4 _ rfl
  clear hc hszW
  go_wp2_with fail
  refine (kF W hbW).mono ?_
  rintro e w1 ⟨rfl, hb1⟩
  replace b0 := cell_later hb1 b0
  replace b1 := cell_later hb1 b1
  replace b2 := cell_later hb1 b2
  replace b3 := cell_later hb1 b3
  replace b4 := cell_later hb1 b4
  have hbX := hbW.trans (hb1.mono hbW.size)
  clear hb1 hbW kF
  go_wp2_with fail
  go_ret
  exact ⟨ret_int HF.out.symm, hbX⟩
 cases r5
 ·have HF : Hid (ne = nodeErrs (f.kids.drop 0)) := by show _ = _; rw [HE.out, HO.out]; rfl
  clear HE HO HC kN kL kP
  go_enter Tryz.func35, Tryz.ntmps35
  go_upto_region 1 with fail
  with_reducible refine gen1 (R := fun W => Code.wp Tryz.prog _ _ _ W) ?_
  intro W hbW hszW hc _
  have b0 : W.cell? ⟨w.heap.size, 0, none⟩ = some (.int .i64 kd) := hc 0 _ rfl
  have b1 : W.cell? ⟨w.heap.size, 1, none⟩ = some (.string (B f.name)) := hc 1 _ rfl
  have b2 : W.cell? ⟨w.heap.size, 2, none⟩ = some (.string (B f.value)) := hc 2 _ rfl
  have b3 : W.cell? ⟨w.heap.size, 3, none⟩ = some (.slice Ap f.parts.length cp) := hc 3 _ rfl
  have b4 : W.cell? ⟨w.heap.size, 4, none⟩ = some (.slice Ak f.kids.length ck) := hc 4 _ rfl
  clear hc hszW
  go_wp2_with fail
  refine (kF W hbW).mono ?_
  rintro e w1 ⟨rfl, hb1⟩
  replace b0 := cell_later hb1 b0
  replace b1 := cell_later hb1 b1
  replace b2 := cell_later hb1 b2
  replace b3 := cell_later hb1 b3
  replace b4 := cell_later hb1 b4
  have hbX := hbW.trans (hb1.mono hbW.size)
  clear hb1 hbW kF
  go_wp2_with fail
  refine (kC w1).mono ?_
  rintro e wd ⟨rfl, rfl⟩
  clear kC
  go_wp2_with fail
  go_loopw [45] (fun i wr => ∃ k : Nat, k ≤ f.kids.length ∧ i = .int .i64 k ∧ Below w.heap.size w wr ∧ Hid (ne = nodeErrs (f.kids.drop k))) (fun i _ => f.kids.length - (intOf i).toNat)
  case atStart => exact ⟨0, Nat.zero_le _, rfl, hbX, HF⟩
  case round =>
   obtain ⟨k, hk9, rfl, hb, hinv⟩ := hrel
   by_cases hlt : k < f.kids.length
   ·obtain ⟨g, off, Ap', cp', Ak', ck', hA, hg, c0, c1, c2, c3, c4, hd, hkid⟩ := FltsV.kid2 (FltsV.keep hk hb) hlt
    subst hA
    have hltI : (k : Int) < (f.kids.length : Int) := by omega
    have hmem := List.getElem_mem hlt
    have HT := Lib.hid (nodeErrs_step hlt)
    clear hbX b4
    go_upto_region 12 with fail
    with_reducible refine gen1 (R := fun W => Code.wp Tryz.prog _ _ _ W) ?_
    intro W5 hbW5 hsz5 hc5 _
    have k0 : W5.cell? ⟨wr.heap.size, 0, none⟩ = some (.int .i64 f.kids[k].kind) := hc5 0 _ rfl
    have k1 : W5.cell? ⟨wr.heap.size, 1, none⟩ = some (.string (B f.kids[k].name)) := hc5 1 _ rfl
    have k2 : W5.cell? ⟨wr.heap.size, 2, none⟩ = some (.string (B f.kids[k].value)) := hc5 2 _ rfl
    have k3 : W5.cell? ⟨wr.heap.size, 3, none⟩ = some (.slice Ap' f.kids[k].parts.length cp') := hc5 3 _ rfl
    have k4 : W5.cell? ⟨wr.heap.size, 4, none⟩ = some (.slice Ak' f.kids[k].kids.length ck') := hc5 4 _ rfl
    have hcall := ih (d - 1) (by omega) _ f.kids[k] W5 (FltV.on (FltV.mono hkid hb.size) hbW5) (hks.mem hmem)
    have hb5 := hb.trans (hbW5.mono hb.size)
    clear hc5 hsz5 hkid c0 c1 c2 c3 c4 hbW5 ih hk
    generalize nodeErr f.kids[k] = q at *
    by_cases hq : q = 0
    ·have hI : (q != 0) = false := by simpa using hq
     have HV : Hid (ne = nodeErrs (f.kids.drop (k + 1))) := by show _ = _; rw [hinv.out, HT.out, hI]; rfl
     clear hinv HT hq
     go_wp2_with fail
     refine hcall.mono ?_
     rintro e w6 ⟨rfl, hb6⟩
     clear hcall k0 k1 k2 k3 k4
     go_wp2_with fail
     go_roundw
     case rel => exact ⟨k + 1, by omega, by go_num, hb5.trans (hb6.mono hb5.size), HV⟩
     case measure => simp [intOf]; omega
    ·have hI : (q != 0) = true := by simpa using hq
     have HV : Hid (ne = q) := by show _ = _; rw [hinv.out, HT.out, hI]; rfl
     clear hinv HT hq
     go_wp2_with fail
     refine hcall.mono ?_
     rintro e w6 ⟨rfl, hb6⟩
     clear hcall k0 k1 k2 k3 k4
     go_wp2_with fail
     go_ret
     exact ⟨ret_int HV.out.symm, hb5.trans (hb6.mono hb5.size)⟩
   ·have hltI : ¬ (k : Int) < (f.kids.length : Int) := by omega
    have HV : Hid (ne = 0) := by show _ = _; rw [hinv.out, List.drop_eq_nil_of_le (by omega)]; rfl
    clear hinv hbX b4
    go_wp2_with fail
    go_ret
    exact ⟨ret_int HV.out.symm, hb⟩
 cases r2
 ·have HF : Hid (ne = 5) := by show _ = _; rw [HE.out, HO.out]; rfl
  clear HE HO HC kL kP ih hk
  go_enter Tryz.func35, Tryz.ntmps35
  go_upto_region 1 with fail
  with_reducible refine gen1 (R := fun W => Code.wp Tryz.prog _ _ _ W) ?_
  intro W hbW hszW hc _
  have b0 : W.cell? ⟨w.heap.size, 0, none⟩ = some (.int .i64 kd) := hc 0 _ rfl
  have b1 : W.cell? ⟨w.heap.size, 1, none⟩ = some (.string (B f.name)) := hc 1 _ rfl
  have b2 : W.cell? ⟨w.heap.size, 2, none⟩ = some (.string (B f.value)) := hc 2 _ rfl
  have b3 : W.cell? ⟨w.heap.size, 3, none⟩ = some (.slice Ap f.parts.length cp) := hc 3 _ rfl
  have b4 : W.cell? ⟨w.heap.size, 4, none⟩ = some (.slice Ak f.kids.length ck) := hc 4 _ rfl
  clear hc hszW
  go_wp2_with fail
  refine (kF W hbW).mono ?_
  rintro e w1 ⟨rfl, hb1⟩
  replace b0 := cell_later hb1 b0
  replace b1 := cell_later hb1 b1
  replace b2 := cell_later hb1 b2
  replace b3 := cell_later hb1 b3
  replace b4 := cell_later hb1 b4
  have hbX := hbW.trans (hb1.mono hbW.size)
  clear hb1 hbW kF
  go_wp2_with fail
  refine (kC w1).mono ?_
  rintro e wd ⟨rfl, rfl⟩
  clear kC
  go_wp2_with fail
  refine (kN w1).mono ?_
  rintro e wd ⟨rfl, rfl⟩
  clear kN
  go_wp2_with fail
  go_ret
  exact ⟨ret_int HF.out.symm, hbX⟩
 rcases (show ((kd == 4) = true ∧ kd ≤ 6) ∨ ((kd == 4) = false ∧ (kd == 5) = true ∧ kd ≤ 6) ∨ ((kd == 4) = false ∧ (kd == 5) = false ∧ (kd == 6) = true ∧ kd ≤ 6) ∨ ((kd == 4) = false ∧ (kd == 5) = false ∧ (kd == 6) = false ∧ ¬ kd ≤ 6) by
  have := HC.out.1 rfl
  simp only [beq_eq_false_iff_ne, beq_iff_eq]; omega) with ⟨e4, e7⟩ | ⟨e4, e5, e7⟩ | ⟨e4, e5, e6, e7⟩ | ⟨e4, e5, e6, e7⟩
 iterate 3
  ·have HD := Lib.hid (decide_eq_true e7)
   clear e7 HC
   cases r3
   ·have HF : Hid (ne = 8) := by show _ = _; rw [HE.out, HO.out, HD.out]; rfl
    clear HE HO HD kP ih hk
    go_enter Tryz.func35, Tryz.ntmps35
    go_upto_region 1 with fail
    with_reducible refine gen1 (R := fun W => Code.wp Tryz.prog _ _ _ W) ?_
    intro W hbW hszW hc _
    have b0 : W.cell? ⟨w.heap.size, 0, none⟩ = some (.int .i64 kd) := hc 0 _ rfl
    have b1 : W.cell? ⟨w.heap.size, 1, none⟩ = some (.string (B f.name)) := hc 1 _ rfl
    have b2 : W.cell? ⟨w.heap.size, 2, none⟩ = some (.string (B f.value)) := hc 2 _ rfl
    have b3 : W.cell? ⟨w.heap.size, 3, none⟩ = some (.slice Ap f.parts.length cp) := hc 3 _ rfl
    have b4 : W.cell? ⟨w.heap.size, 4, none⟩ = some (.slice Ak f.kids.length ck) := hc 4 _ rfl
    clear hc hszW
    go_wp2_with fail
    refine (kF W hbW).mono ?_
    rintro e w1 ⟨rfl, hb1⟩
    replace b0 := cell_later hb1 b0
    replace b1 := cell_later hb1 b1
    replace b2 := cell_later hb1 b2
    replace b3 := cell_later hb1 b3
    replace b4 := cell_later hb1 b4
    have hbX := hbW.trans (hb1.mono hbW.size)
    clear hb1 hbW kF
    go_wp2_with fail
    refine (kC w1).mono ?_
    rintro e wd ⟨rfl, rfl⟩
    clear kC
    go_wp2_with fail
    refine (kN w1).mono ?_
    rintro e wd ⟨rfl, rfl⟩
    clear kN
    go_wp2_with fail
    refine (kL w1).mono ?_
    rintro e w2 ⟨rfl, hb2⟩
    replace b3 := cell_later hb2 b3
    replace b4 := cell_later hb2 b4
    replace hbX := hbX.trans (hb2.mono hbX.size)
    clear kL hb2 b0 b1 b2
    go_wp2_with fail
    go_ret
    exact ⟨ret_int HF.out.symm, hbX⟩
   cases r4
   ·have HF : Hid (ne = nodeErrs (f.kids.drop 0)) := by show _ = _; rw [HE.out, HO.out, HD.out]; rfl
    clear HE HO HD
    go_enter Tryz.func35, Tryz.ntmps35
    go_upto_region 1 with fail
    with_reducible refine gen1 (R := fun W => Code.wp Tryz.prog _ _ _ W) ?_
    intro W hbW hszW hc _
    have b0 : W.cell? ⟨w.heap.size, 0, none⟩ = some (.int .i64 kd) := hc 0 _ rfl
    have b1 : W.cell? ⟨w.heap.size, 1, none⟩ = some (.string (B f.name)) := hc 1 _ rfl
    have b2 : W.cell? ⟨w.heap.size, 2, none⟩ = some (.string (B f.value)) := hc 2 _ rfl
    have b3 : W.cell? ⟨w.heap.size, 3, none⟩ = some (.slice Ap f.parts.length cp) := hc 3 _ rfl
    have b4 : W.cell? ⟨w.heap.size, 4, none⟩ = some (.slice Ak f.kids.length ck) := hc 4 _ rfl
    clear hc hszW
    go_wp2_with fail
    refine (kF W hbW).mono ?_
    rintro e w1 ⟨rfl, hb1⟩
    replace b0 := cell_later hb1 b0
    replace b1 := cell_later hb1 b1
    replace b2 := cell_later hb1 b2
    replace b3 := cell_later hb1 b3
    replace b4 := cell_later hb1 b4
    have hbX := hbW.trans (hb1.mono hbW.size)
    clear hb1 hbW kF
    go_wp2_with fail
    refine (kC w1).mono ?_
    rintro e wd ⟨rfl, rfl⟩
    clear kC
    go_wp2_with fail
    refine (kN w1).mono ?_
    rintro e wd ⟨rfl, rfl⟩
    clear kN
    go_wp2_with fail
    refine (kL w1).mono ?_
    rintro e w2 ⟨rfl, hb2⟩
    replace b3 := cell_later hb2 b3
    replace b4 := cell_later hb2 b4
    replace hbX := hbX.trans (hb2.mono hbX.size)
    clear kL hb2 b0 b1 b2
    go_wp2_with fail
    refine (kP _ hbX).mono ?_
    rintro e w3 ⟨rfl, hb3⟩
    replace b4 := cell_later hb3 b4
    replace hbX := hbX.trans (hb3.mono hbX.size)
    clear kP hb3 b3
    go_wp2_with fail
    go_loopw [45] (fun i wr => ∃ k : Nat, k ≤ f.kids.length ∧ i = .int .i64 k ∧ Below w.heap.size w wr ∧ Hid (ne = nodeErrs (f.kids.drop k))) (fun i _ => f.kids.length - (intOf i).toNat)
    case atStart => exact ⟨0, Nat.zero_le _, rfl, hbX, HF⟩
    case round =>
     obtain ⟨k, hk9, rfl, hb, hinv⟩ := hrel
     by_cases hlt : k < f.kids.length
     ·obtain ⟨g, off, Ap', cp', Ak', ck', hA, hg, c0, c1, c2, c3, c4, hd, hkid⟩ := FltsV.kid2 (FltsV.keep hk hb) hlt
      subst hA
      have hltI : (k : Int) < (f.kids.length : Int) := by omega
      have hmem := List.getElem_mem hlt
      have HT := Lib.hid (nodeErrs_step hlt)
      clear hbX b4
      go_upto_region 12 with fail
      with_reducible refine gen1 (R := fun W => Code.wp Tryz.prog _ _ _ W) ?_
      intro W5 hbW5 hsz5 hc5 _
      have k0 : W5.cell? ⟨wr.heap.size, 0, none⟩ = some (.int .i64 f.kids[k].kind) := hc5 0 _ rfl
      have k1 : W5.cell? ⟨wr.heap.size, 1, none⟩ = some (.string (B f.kids[k].name)) := hc5 1 _ rfl
      have k2 : W5.cell? ⟨wr.heap.size, 2, none⟩ = some (.string (B f.kids[k].value)) := hc5 2 _ rfl
      have k3 : W5.cell? ⟨wr.heap.size, 3, none⟩ = some (.slice Ap' f.kids[k].parts.length cp') := hc5 3 _ rfl
      have k4 : W5.cell? ⟨wr.heap.size, 4, none⟩ = some (.slice Ak' f.kids[k].kids.length ck') := hc5 4 _ rfl
      have hcall := ih (d - 1) (by omega) _ f.kids[k] W5 (FltV.on (FltV.mono hkid hb.size) hbW5) (hks.mem hmem)
      have hb5 := hb.trans (hbW5.mono hb.size)
      clear hc5 hsz5 hkid c0 c1 c2 c3 c4 hbW5 ih hk
      generalize nodeErr f.kids[k] = q at *
      by_cases hq : q = 0
      ·have hI : (q != 0) = false := by simpa using hq
       have HV : Hid (ne = nodeErrs (f.kids.drop (k + 1))) := by show _ = _; rw [hinv.out, HT.out, hI]; rfl
       clear hinv HT hq
       go_wp2_with fail
       refine hcall.mono ?_
       rintro e w6 ⟨rfl, hb6⟩
       clear hcall k0 k1 k2 k3 k4
       go_wp2_with fail
       go_roundw
       case rel => exact ⟨k + 1, by omega, by go_num, hb5.trans (hb6.mono hb5.size), HV⟩
       case measure => simp [intOf]; omega
      ·have hI : (q != 0) = true := by simpa using hq
       have HV : Hid (ne = q) := by show _ = _; rw [hinv.out, HT.out, hI]; rfl
       clear hinv HT hq
       go_wp2_with fail
       refine hcall.mono ?_
       rintro e w6 ⟨rfl, hb6⟩
       clear hcall k0 k1 k2 k3 k4
       go_wp2_with fail
       go_ret
       exact ⟨ret_int HV.out.symm, hb5.trans (hb6.mono hb5.size)⟩
     ·have hltI : ¬ (k : Int) < (f.kids.length : Int) := by omega
      have HV : Hid (ne = 0) := by show _ = _; rw [hinv.out, List.drop_eq_nil_of_le (by omega)]; rfl
      clear hinv hbX b4
      go_wp2_with fail
      go_ret
      exact ⟨ret_int HV.out.symm, hb⟩
   ·have HF : Hid (ne = 8) := by show _ = _; rw [HE.out, HO.out, HD.out]; rfl
    clear HE HO HD ih hk
    go_enter Tryz.func35, Tryz.ntmps35
    go_upto_region 1 with fail
    with_reducible refine gen1 (R := fun W => Code.wp Tryz.prog _ _ _ W) ?_
    intro W hbW hszW hc _
    have b0 : W.cell? ⟨w.heap.size, 0, none⟩ = some (.int .i64 kd) := hc 0 _ rfl
    have b1 : W.cell? ⟨w.heap.size, 1, none⟩ = some (.string (B f.name)) := hc 1 _ rfl
    have b2 : W.cell? ⟨w.heap.size, 2, none⟩ = some (.string (B f.value)) := hc 2 _ rfl
    have b3 : W.cell? ⟨w.heap.size, 3, none⟩ = some (.slice Ap f.parts.length cp) := hc 3 _ rfl
    have b4 : W.cell? ⟨w.heap.size, 4, none⟩ = some (.slice Ak f.kids.length ck) := hc 4 _ rfl
    clear hc hszW
    go_wp2_with fail
    refine (kF W hbW).mono ?_
    rintro e w1 ⟨rfl, hb1⟩
    replace b0 := cell_later hb1 b0
    replace b1 := cell_later hb1 b1
    replace b2 := cell_later hb1 b2
    replace b3 := cell_later hb1 b3
    replace b4 := cell_later hb1 b4
    have hbX := hbW.trans (hb1.mono hbW.size)
    clear hb1 hbW kF
    go_wp2_with fail
    refine (kC w1).mono ?_
    rintro e wd ⟨rfl, rfl⟩
    clear kC
    go_wp2_with fail
    refine (kN w1).mono ?_
    rintro e wd ⟨rfl, rfl⟩
    clear kN
    go_wp2_with fail
    refine (kL w1).mono ?_
    rintro e w2 ⟨rfl, hb2⟩
    replace b3 := cell_later hb2 b3
    replace b4 := cell_later hb2 b4
    replace hbX := hbX.trans (hb2.mono hbX.size)
    clear kL hb2 b0 b1 b2
    go_wp2_with fail
    refine (kP _ hbX).mono ?_
    rintro e w3 ⟨rfl, hb3⟩
    replace b4 := cell_later hb3 b4
    replace hbX := hbX.trans (hb3.mono hbX.size)
    clear kP hb3 b3
    go_wp2_with fail
    go_ret
    exact ⟨ret_int HF.out.symm, hbX⟩
 have HD := Lib.hid (decide_eq_false e7)
 clear e7 HC kL
 cases r4
 ·have HF : Hid (ne = nodeErrs (f.kids.drop 0)) := by show _ = _; rw [HE.out, HO.out, HD.out]; rfl
  clear HE HO HD
  go_enter Tryz.func35, Tryz.ntmps35
  go_upto_region 1 with fail
  with_reducible refine gen1 (R := fun W => Code.wp Tryz.prog _ _ _ W) ?_
  intro W hbW hszW hc _
  have b0 : W.cell? ⟨w.heap.size, 0, none⟩ = some (.int .i64 kd) := hc 0 _ rfl
  have b1 : W.cell? ⟨w.heap.size, 1, none⟩ = some (.string (B f.name)) := hc 1 _ rfl
  have b2 : W.cell? ⟨w.heap.size, 2, none⟩ = some (.string (B f.value)) := hc 2 _ rfl
  have b3 : W.cell? ⟨w.heap.size, 3, none⟩ = some (.slice Ap f.parts.length cp) := hc 3 _ rfl
  have b4 : W.cell? ⟨w.heap.size, 4, none⟩ = some (.slice Ak f.kids.length ck) := hc 4 _ rfl
  clear hc hszW
  go_wp2_with fail
  refine (kF W hbW).mono ?_
  rintro e w1 ⟨rfl, hb1⟩
  replace b0 := cell_later hb1 b0
  replace b1 := cell_later hb1 b1
  replace b2 := cell_later hb1 b2
  replace b3 := cell_later hb1 b3
  replace b4 := cell_later hb1 b4
  have hbX := hbW.trans (hb1.mono hbW.size)
  clear hb1 hbW kF
  go_wp2_with fail
  refine (kC w1).mono ?_
  rintro e wd ⟨rfl, rfl⟩
  clear kC
  go_wp2_with fail
  refine (kN w1).mono ?_
  rintro e wd ⟨rfl, rfl⟩
  clear kN
  go_wp2_with fail
  refine (kP _ hbX).mono ?_
  rintro e w3 ⟨rfl, hb3⟩
  replace b4 := cell_later hb3 b4
  replace hbX := hbX.trans (hb3.mono hbX.size)
  clear kP hb3 b3
  go_wp2_with fail
  go_loopw [45] (fun i wr => ∃ k : Nat, k ≤ f.kids.length ∧ i = .int .i64 k ∧ Below w.heap.size w wr ∧ Hid (ne = nodeErrs (f.kids.drop k))) (fun i _ => f.kids.length - (intOf i).toNat)
  case atStart => exact ⟨0, Nat.zero_le _, rfl, hbX, HF⟩
  case round =>
   obtain ⟨k, hk9, rfl, hb, hinv⟩ := hrel
   by_cases hlt : k < f.kids.length
   ·obtain ⟨g, off, Ap', cp', Ak', ck', hA, hg, c0, c1, c2, c3, c4, hd, hkid⟩ := FltsV.kid2 (FltsV.keep hk hb) hlt
    subst hA
    have hltI : (k : Int) < (f.kids.length : Int) := by omega
    have hmem := List.getElem_mem hlt
    have HT := Lib.hid (nodeErrs_step hlt)
    clear hbX b4
    go_upto_region 12 with fail
    with_reducible refine gen1 (R := fun W => Code.wp Tryz.prog _ _ _ W) ?_
    intro W5 hbW5 hsz5 hc5 _
    have k0 : W5.cell? ⟨wr.heap.size, 0, none⟩ = some (.int .i64 f.kids[k].kind) := hc5 0 _ rfl
    have k1 : W5.cell? ⟨wr.heap.size, 1, none⟩ = some (.string (B f.kids[k].name)) := hc5 1 _ rfl
    have k2 : W5.cell? ⟨wr.heap.size, 2, none⟩ = some (.string (B f.kids[k].value)) := hc5 2 _ rfl
    have k3 : W5.cell? ⟨wr.heap.size, 3, none⟩ = some (.slice Ap' f.kids[k].parts.length cp') := hc5 3 _ rfl
    have k4 : W5.cell? ⟨wr.heap.size, 4, none⟩ = some (.slice Ak' f.kids[k].kids.length ck') := hc5 4 _ rfl
    have hcall := ih (d - 1) (by omega) _ f.kids[k] W5 (FltV.on (FltV.mono hkid hb.size) hbW5) (hks.mem hmem)
    have hb5 := hb.trans (hbW5.mono hb.size)
    clear hc5 hsz5 hkid c0 c1 c2 c3 c4 hbW5 ih hk
    generalize nodeErr f.kids[k] = q at *
    by_cases hq : q = 0
    ·have hI : (q != 0) = false := by simpa using hq
     have HV : Hid (ne = nodeErrs (f.kids.drop (k + 1))) := by show _ = _; rw [hinv.out, HT.out, hI]; rfl
     clear hinv HT hq
     go_wp2_with fail
     refine hcall.mono ?_
     rintro e w6 ⟨rfl, hb6⟩
     clear hcall k0 k1 k2 k3 k4
     go_wp2_with fail
     go_roundw
     case rel => exact ⟨k + 1, by omega, by go_num, hb5.trans (hb6.mono hb5.size), HV⟩
     case measure => simp [intOf]; omega
    ·have hI : (q != 0) = true := by simpa using hq
     have HV : Hid (ne = q) := by show _ = _; rw [hinv.out, HT.out, hI]; rfl
     clear hinv HT hq
     go_wp2_with fail
     refine hcall.mono ?_
     rintro e w6 ⟨rfl, hb6⟩
     clear hcall k0 k1 k2 k3 k4
     go_wp2_with fail
     go_ret
     exact ⟨ret_int HV.out.symm, hb5.trans (hb6.mono hb5.size)⟩
   ·have hltI : ¬ (k : Int) < (f.kids.length : Int) := by omega
    have HV : Hid (ne = 0) := by show _ = _; rw [hinv.out, List.drop_eq_nil_of_le (by omega)]; rfl
    clear hinv hbX b4
    go_wp2_with fail
    go_ret
    exact ⟨ret_int HV.out.symm, hb⟩
 ·have HF : Hid (ne = 8) := by show _ = _; rw [HE.out, HO.out, HD.out]; rfl
  clear HE HO HD ih hk
  go_enter Tryz.func35, Tryz.ntmps35
  go_upto_region 1 with fail
  with_reducible refine gen1 (R := fun W => Code.wp Tryz.prog _ _ _ W) ?_
  intro W hbW hszW hc _
  have b0 : W.cell? ⟨w.heap.size, 0, none⟩ = some (.int .i64 kd) := hc 0 _ rfl
  have b1 : W.cell? ⟨w.heap.size, 1, none⟩ = some (.string (B f.name)) := hc 1 _ rfl
  have b2 : W.cell? ⟨w.heap.size, 2, none⟩ = some (.string (B f.value)) := hc 2 _ rfl
  have b3 : W.cell? ⟨w.heap.size, 3, none⟩ = some (.slice Ap f.parts.length cp) := hc 3 _ rfl
  have b4 : W.cell? ⟨w.heap.size, 4, none⟩ = some (.slice Ak f.kids.length ck) := hc 4 _ rfl
  clear hc hszW
  go_wp2_with fail
  refine (kF W hbW).mono ?_
  rintro e w1 ⟨rfl, hb1⟩
  replace b0 := cell_later hb1 b0
  replace b1 := cell_later hb1 b1
  replace b2 := cell_later hb1 b2
  replace b3 := cell_later hb1 b3
  replace b4 := cell_later hb1 b4
  have hbX := hbW.trans (hb1.mono hbW.size)
  clear hb1 hbW kF
  go_wp2_with fail
  refine (kC w1).mono ?_
  rintro e wd ⟨rfl, rfl⟩
  clear kC
  go_wp2_with fail
  refine (kN w1).mono ?_
  rintro e wd ⟨rfl, rfl⟩
  clear kN
  go_wp2_with fail
  refine (kP _ hbX).mono ?_
  rintro e w3 ⟨rfl, hb3⟩
  replace b4 := cell_later hb3 b4
  replace hbX := hbX.trans (hb3.mono hbX.size)
  clear kP hb3 b3
  go_wp2_with fail
  go_ret
  exact ⟨ret_int HF.out.symm, hbX⟩
theorem fCheck_any (d : Nat) (v : Value) (f : Flt) (w : World) (hv : FltV w w.heap.size d v f) (hs : FSm 1000 f) :
    Calls Tryz.prog 12 #[v] w fun e w' => e = .returned (.int .i64 (fCheck f)) ∧ Below w.heap.size w w' := by
  obtain ⟨Ap, cp, Ak, ck, rfl, hp, hk⟩ := hv.shape
  have k1 := fun W (hW : Below w.heap.size w W) => nodes_any d _ f W (hv.on hW) hs
  have k2 := fun W (hW : Below w.heap.size w W) => deep_any d _ f 8 W (hv.on hW) hs (by decide)
  have k3 := fun W (hW : Below w.heap.size w W) => fcheck_any d _ f W (hv.on hW) hs
  have HC : Hid (fCheck f = if 64 < fSize f ∨ 8 < fDep f then 3 else nodeErr f) := rfl
  obtain ⟨q, hq⟩ : ∃ q : Nat, q = min (fSize f) 65 := ⟨_, rfl⟩
  rw [← hq] at k1
  by_cases h64 : 64 < fSize f
  · have hI : (64 : Int) < (q : Int) := by omega
    have HF : Hid (fCheck f = 3) := by show _ = _; rw [HC.out, if_pos (.inl h64)]
    clear k2 k3 hq h64 hp hk hv
    go_enter Tryz.func12, Tryz.ntmps12
    go_upto_region 1 with fail
    with_reducible refine gen1 (R := fun W => Code.wp Tryz.prog _ _ _ W) ?_
    intro W hbW hszW hc1 _
    have b0 : W.cell? ⟨w.heap.size, 0, none⟩ = some (.int .i64 f.kind) := hc1 0 _ rfl
    have b1 : W.cell? ⟨w.heap.size, 1, none⟩ = some (.string (B f.name)) := hc1 1 _ rfl
    have b2 : W.cell? ⟨w.heap.size, 2, none⟩ = some (.string (B f.value)) := hc1 2 _ rfl
    have b3 : W.cell? ⟨w.heap.size, 3, none⟩ = some (.slice Ap f.parts.length cp) := hc1 3 _ rfl
    have b4 : W.cell? ⟨w.heap.size, 4, none⟩ = some (.slice Ak f.kids.length ck) := hc1 4 _ rfl
    clear hc1 hszW
    go_wp2_with fail
    refine (k1 W hbW).mono ?_
    rintro e w1 ⟨rfl, hb1⟩
    go_wp2_with fail
    go_ret
    exact ⟨ret_int HF.out.symm, hbW.trans (hb1.mono hbW.size)⟩
  have hI : ¬ (64 : Int) < (q : Int) := by omega
  have HF : Hid (fCheck f = if 8 < fDep f then 3 else nodeErr f) := by
    show _ = _; rw [HC.out]
    by_cases h8 : 8 < fDep f
    · rw [if_pos (.inr h8), if_pos h8]
    · rw [if_neg (by omega), if_neg h8]
  clear hq h64 hp hk hv HC
  by_cases h8 : 8 < fDep f
  all_goals
    first
      | (rw [if_pos h8] at HF; rw [decide_eq_true h8] at k2)
      | (rw [if_neg h8] at HF; rw [decide_eq_false h8] at k2)
    clear h8
    go_enter Tryz.func12, Tryz.ntmps12
    go_upto_region 1 with fail
    with_reducible refine gen1 (R := fun W => Code.wp Tryz.prog _ _ _ W) ?_
    intro W hbW hszW hc1 _
    have b0 : W.cell? ⟨w.heap.size, 0, none⟩ = some (.int .i64 f.kind) := hc1 0 _ rfl
    have b1 : W.cell? ⟨w.heap.size, 1, none⟩ = some (.string (B f.name)) := hc1 1 _ rfl
    have b2 : W.cell? ⟨w.heap.size, 2, none⟩ = some (.string (B f.value)) := hc1 2 _ rfl
    have b3 : W.cell? ⟨w.heap.size, 3, none⟩ = some (.slice Ap f.parts.length cp) := hc1 3 _ rfl
    have b4 : W.cell? ⟨w.heap.size, 4, none⟩ = some (.slice Ak f.kids.length ck) := hc1 4 _ rfl
    clear hc1 hszW
    go_wp2_with fail
    refine (k1 W hbW).mono ?_
    rintro e w1 ⟨rfl, hb1⟩
    replace b0 := cell_later hb1 b0
    replace b1 := cell_later hb1 b1
    replace b2 := cell_later hb1 b2
    replace b3 := cell_later hb1 b3
    replace b4 := cell_later hb1 b4
    have hbw1 := hbW.trans (hb1.mono hbW.size)
    clear k1 hb1 hbW
    go_wp2_with fail
    refine (k2 w1 hbw1).mono ?_
    rintro e w2 ⟨rfl, hb2⟩
    replace b0 := cell_later hb2 b0
    replace b1 := cell_later hb2 b1
    replace b2 := cell_later hb2 b2
    replace b3 := cell_later hb2 b3
    replace b4 := cell_later hb2 b4
    have hbw2 := hbw1.trans (hb2.mono hbw1.size)
    clear k2 hb2 hbw1
    go_wp2_with fail
    first
      | (go_ret
         exact ⟨ret_int HF.out.symm, hbw2⟩)
      | (refine (k3 w2 hbw2).mono ?_
         rintro e w3 ⟨rfl, hb3⟩
         go_wp2_with fail
         go_ret
         exact ⟨ret_int HF.out.symm, hbw2.trans (hb3.mono hbw2.size)⟩)
end Go.Proofs.YtmamnmjfbadiiaaGreatDoor
/- filter: escaped, text, Text. -/
namespace Go.Proofs.YtmamnmjfbadiiaaGreatDoor
open Go.RowKit Go.Sort
open Idn (L B Bs drop_L take_L size_L)
theorem escF1_len (c : UInt8) : (escF1 c).length ≤ 3 := by unfold escF1; split <;> (try split) <;> (try split) <;> (try split) <;> simp
theorem escF_len (l : Bs) : (escF l).length ≤ 3 * l.length := by
  induction l with
  | nil => simp [escF]
  | cons c l ih =>
    have := escF1_len c
    have e : escF (c :: l) = escF1 c ++ escF l := by unfold escF; rw [List.flatMap_cons]
    rw [e, List.length_append, List.length_cons]; omega
theorem escF_snoc (l : Bs) (c : UInt8) : escF (l ++ [c]) = escF l ++ escF1 c := by unfold escF; rw [List.flatMap_append]; simp
theorem escF_cases (c : UInt8) : (c = 40 ∧ escF1 c = [92, 50, 56]) ∨ (c = 41 ∧ escF1 c = [92, 50, 57]) ∨ (c = 42 ∧ escF1 c = [92, 50, 97]) ∨ (c = 92 ∧ escF1 c = [92, 53, 99]) ∨
  (((c.toNat : Int) == 40) = false ∧ ((c.toNat : Int) == 41) = false ∧ ((c.toNat : Int) == 42) = false ∧ ((c.toNat : Int) == 92) = false ∧ escF1 c = [c]) := by
 by_cases h1 : c = 40
 ·subst h1; exact .inl ⟨rfl, rfl⟩
 by_cases h2 : c = 41
 ·subst h2; exact .inr (.inl ⟨rfl, rfl⟩)
 by_cases h3 : c = 42
 ·subst h3; exact .inr (.inr (.inl ⟨rfl, rfl⟩))
 by_cases h4 : c = 92
 ·subst h4; exact .inr (.inr (.inr (.inl ⟨rfl, rfl⟩)))
 refine .inr (.inr (.inr (.inr ⟨(byte_eq c 40).trans (beq_eq_false_iff_ne.2 h1), (byte_eq c 41).trans (beq_eq_false_iff_ne.2 h2), (byte_eq c 42).trans (beq_eq_false_iff_ne.2 h3), (byte_eq c 92).trans (beq_eq_false_iff_ne.2 h4), ?_⟩)))
 unfold escF1
 rw [if_neg h1, if_neg h2, if_neg h3, if_neg h4]
theorem escaped_any (s : ByteArray) (w : World) (hs : s.size ≤ 1000000000) :
  Calls Tryz.prog 70 #[.string s] w fun e w' => e = .returned (.string (B (escF (L s)))) ∧ Below w.heap.size w w' := by
 have hB0 := Bld.new w
 generalize hr : escF (L s) = r
 have HR := Lib.hid hr
 clear hr
 go_enter Tryz.func70, Tryz.ntmps70
 go_wp2
 go_loopw [7] (fun i wr => ∃ (k : Nat) (acc : Bs), k ≤ s.size ∧ i = .int .i64 k ∧ Below w.heap.size w wr ∧ Bld w.heap.size w.heap.size (Lib.byteCells acc) wr ∧ Hid (acc = escF ((L s).take k)) ∧ acc.length ≤ 3 * k) (fun i _ => s.size - (intOf i).toNat)
 case atStart => exact ⟨0, [], Nat.zero_le _, rfl, (Below.refl _ _).alloc (Nat.le_refl _) _, hB0, rfl, Nat.le_refl _⟩
 case round =>
  obtain ⟨k, acc, hk, rfl, hb, hB, hinv, hal⟩ := hrel
  clear hB0
  by_cases hlt : k < s.size
  ·have hltI : (k : Int) < (s.size : Int) := by omega
   have hstep : escF ((L s).take (k + 1)) = escF ((L s).take k) ++ escF1 s[k] := by rw [take_L s k hlt, escF_snoc]
   obtain ⟨ch, hch⟩ : ∃ ch : UInt8, ch = s[k] := ⟨_, rfl⟩
   rw [← hch] at hstep
   have hix : (s[k].toNat : Int) = (ch.toNat : Int) := by rw [hch]
   have hW1 := writeByte_any w.heap.size w.heap.size (Lib.byteCells acc) s[k] wr hB (by rw [byteCells_len]; omega) hb.size
   rcases escF_cases ch with ⟨hc, e1⟩ | ⟨hc, e1⟩ | ⟨hc, e1⟩ | ⟨hc, e1⟩ | ⟨h1, h2, h3, h4, e1⟩
   ·have n0 : ((s[k].toNat : Int) == 40) = true := by rw [hix, hc]; rfl
    have HF : Hid (acc ++ [92, 50, 56] = escF ((L s).take (k + 1))) := by show _ = _; rw [hstep, e1, hinv.out]
    have hW := writeString_any w.heap.size w.heap.size (Lib.byteCells acc) ⟨#[92, 50, 56]⟩ wr hB (by rw [byteCells_len]; show acc.length + 3 ≤ _; omega) hb.size
    clear hstep e1 hinv hB hW1 hch hix hc
    go_wp2_with fail
    refine hW.mono ?_
    rintro e w1 ⟨rfl, hB1, hb1, _⟩
    clear hW
    go_wp2_with fail
    go_roundw
    case rel => exact ⟨k + 1, acc ++ [92, 50, 56], by omega, by go_num, hb.trans hb1, by rw [bytes_str] at hB1; exact hB1, HF, by simp; omega⟩
    case measure => simp [intOf]; omega
   ·have n0 : ((s[k].toNat : Int) == 41) = true := by rw [hix, hc]; rfl
    have n40 : ((s[k].toNat : Int) == 40) = false := by rw [hix, hc]; rfl
    have HF : Hid (acc ++ [92, 50, 57] = escF ((L s).take (k + 1))) := by show _ = _; rw [hstep, e1, hinv.out]
    have hW := writeString_any w.heap.size w.heap.size (Lib.byteCells acc) ⟨#[92, 50, 57]⟩ wr hB (by rw [byteCells_len]; show acc.length + 3 ≤ _; omega) hb.size
    clear hstep e1 hinv hB hW1 hch hix hc
    go_wp2_with fail
    refine hW.mono ?_
    rintro e w1 ⟨rfl, hB1, hb1, _⟩
    clear hW
    go_wp2_with fail
    go_roundw
    case rel => exact ⟨k + 1, acc ++ [92, 50, 57], by omega, by go_num, hb.trans hb1, by rw [bytes_str] at hB1; exact hB1, HF, by simp; omega⟩
    case measure => simp [intOf]; omega
   ·have n0 : ((s[k].toNat : Int) == 42) = true := by rw [hix, hc]; rfl
    have n40 : ((s[k].toNat : Int) == 40) = false := by rw [hix, hc]; rfl
    have n41 : ((s[k].toNat : Int) == 41) = false := by rw [hix, hc]; rfl
    have HF : Hid (acc ++ [92, 50, 97] = escF ((L s).take (k + 1))) := by show _ = _; rw [hstep, e1, hinv.out]
    have hW := writeString_any w.heap.size w.heap.size (Lib.byteCells acc) ⟨#[92, 50, 97]⟩ wr hB (by rw [byteCells_len]; show acc.length + 3 ≤ _; omega) hb.size
    clear hstep e1 hinv hB hW1 hch hix hc
    go_wp2_with fail
    refine hW.mono ?_
    rintro e w1 ⟨rfl, hB1, hb1, _⟩
    clear hW
    go_wp2_with fail
    go_roundw
    case rel => exact ⟨k + 1, acc ++ [92, 50, 97], by omega, by go_num, hb.trans hb1, by rw [bytes_str] at hB1; exact hB1, HF, by simp; omega⟩
    case measure => simp [intOf]; omega
   ·have n0 : ((s[k].toNat : Int) == 92) = true := by rw [hix, hc]; rfl
    have n40 : ((s[k].toNat : Int) == 40) = false := by rw [hix, hc]; rfl
    have n41 : ((s[k].toNat : Int) == 41) = false := by rw [hix, hc]; rfl
    have n42 : ((s[k].toNat : Int) == 42) = false := by rw [hix, hc]; rfl
    have HF : Hid (acc ++ [92, 53, 99] = escF ((L s).take (k + 1))) := by show _ = _; rw [hstep, e1, hinv.out]
    have hW := writeString_any w.heap.size w.heap.size (Lib.byteCells acc) ⟨#[92, 53, 99]⟩ wr hB (by rw [byteCells_len]; show acc.length + 3 ≤ _; omega) hb.size
    clear hstep e1 hinv hB hW1 hch hix hc
    go_wp2_with fail
    refine hW.mono ?_
    rintro e w1 ⟨rfl, hB1, hb1, _⟩
    clear hW
    go_wp2_with fail
    go_roundw
    case rel => exact ⟨k + 1, acc ++ [92, 53, 99], by omega, by go_num, hb.trans hb1, by rw [bytes_str] at hB1; exact hB1, HF, by simp; omega⟩
    case measure => simp [intOf]; omega
   ·have n1 : ((s[k].toNat : Int) == 40) = false := by rw [hix]; exact h1
    have n2 : ((s[k].toNat : Int) == 41) = false := by rw [hix]; exact h2
    have n3 : ((s[k].toNat : Int) == 42) = false := by rw [hix]; exact h3
    have n4 : ((s[k].toNat : Int) == 92) = false := by rw [hix]; exact h4
    have HF : Hid (acc ++ [s[k]] = escF ((L s).take (k + 1))) := by show _ = _; rw [hstep, e1, hinv.out, hch]
    clear hstep e1 hinv hB h1 h2 h3 h4 hch hix
    go_wp2_with fail
    refine hW1.mono ?_
    rintro e w1 ⟨rfl, hB1, hb1, _⟩
    clear hW1
    go_wp2_with fail
    go_roundw
    case rel => exact ⟨k + 1, acc ++ [s[k]], by omega, by go_num, hb.trans hb1, by rw [bytes_one]; exact hB1, HF, by simp; omega⟩
    case measure => simp [intOf]; omega
  ·have hltI : ¬ (k : Int) < (s.size : Int) := by omega
   have hStr := Tryz.Builder_String_any_k w.heap.size w.heap.size acc wr hB hb.size
   have HF : Hid (r = acc) := by show _ = _; rw [← HR.out, hinv.out, List.take_of_length_le (by have := size_L s; omega)]
   clear hinv
   go_wp2_with fail
   refine hStr.mono ?_
   rintro e w4 ⟨rfl, _, hb4, _⟩
   go_wp2
   go_ret
   exact ⟨by rw [HF.out]; rfl, hb.trans hb4⟩
def escV (l : List Bs) : List Value := (l.map escF).map sv
theorem fTxt_unf (f : Flt) : fTxt f = txtF f.kind f.name f.value f.parts (fTxts f.kids) := by cases f; rfl
theorem txtF_len {k : Int} {n v : Bs} {ps : List Bs} {t : Bs} (h1 : n.length ≤ 100000) (h2 : v.length ≤ 100000) (h3 : ps.length ≤ 1000) (h4 : ∀ x ∈ ps, x.length ≤ 100000) : (txtF k n v ps t).length ≤ t.length + 400000000 := by
 have e1 := escF_len v
 have e2 := Idn.length_joinL [42] 300000 (ps.map escF) (fun x hx => by
  obtain ⟨y, hy, rfl⟩ := List.mem_map.1 hx
  have := escF_len y
  have := h4 y hy
  omega)
 rw [List.length_map] at e2
 have e3 : ps.length * (300000 + [42].length) ≤ 1000 * (300000 + [42].length) := Nat.mul_le_mul_right _ h3
 rw [List.length_singleton] at e2 e3
 unfold txtF
 repeat' split
 all_goals
  simp only [List.length_append, List.length_cons, List.length_nil]
  omega
theorem fTxt_len : ∀ f : Flt, fOk f → (fTxt f).length ≤ fSize f * 400000000 := by
  intro f
  induction f using Flt.ind with
  | h k n v ps ks ih =>
    intro ho
    have ok := fOk_kids ho
    obtain ⟨h1, h2, h3, h4⟩ := fOk_own ho
    have h5 : ∀ l : List Flt, (∀ f ∈ l, (fTxt f).length ≤ fSize f * 400000000) → (fTxts l).length ≤ fSizes l * 400000000 := by
      intro l
      induction l with
      | nil => intro _; simp [fTxts]
      | cons g l ihl =>
        intro h
        have a1 := h g List.mem_cons_self
        have a2 := ihl fun f hf => h f (List.mem_cons_of_mem _ hf)
        rw [fTxts, List.length_append, fSizes, Nat.add_mul]; omega
    have h6 := h5 ks fun g hg => ih g hg (ok g hg)
    have h7 := txtF_len (k := k) (t := fTxts ks) h1 h2 h3 h4
    rw [fTxt, fSize, Nat.add_mul]
    exact Nat.le_trans h7 (by omega)
theorem fTxts_len {l : List Flt} {n : Nat} (h : FSms n l) : (fTxts l).length ≤ n * 400000000 := by
  have h5 : ∀ l : List Flt, (∀ f ∈ l, fOk f) → (fTxts l).length ≤ fSizes l * 400000000 := by
    intro l
    induction l with
    | nil => intro _; simp [fTxts]
    | cons g l ihl =>
      intro h
      have a1 := fTxt_len g (h g List.mem_cons_self)
      have a2 := ihl fun f hf => h f (List.mem_cons_of_mem _ hf)
      rw [fTxts, List.length_append, fSizes, Nat.add_mul]; omega
  exact Nat.le_trans (h5 l h.2) (Nat.mul_le_mul_right _ h.1)
theorem fTxts_take {l : List Flt} {k : Nat} (h : k < l.length) : fTxts (l.take (k + 1)) = fTxts (l.take k) ++ fTxt l[k] := by
 rw [List.take_succ_eq_append_getElem h, fTxts_eq, fTxts_eq, List.flatMap_append]; simp
theorem fTxts_part (l : List Flt) (k : Nat) : (fTxts (l.take k)).length ≤ (fTxts l).length := by
 have : fTxts l = fTxts (l.take k) ++ fTxts (l.drop k) := by rw [fTxts_eq, fTxts_eq, fTxts_eq, ← List.flatMap_append, List.take_append_drop]
 rw [this, List.length_append]; omega
theorem ftext_any : ∀ (d : Nat) (v : Value) (f : Flt) (w : World), FltV w w.heap.size d v f → FSm 1000 f →
    Calls Tryz.prog 39 #[v] w fun e w' => e = .returned (.string (B (fTxt f))) ∧ Below w.heap.size w w' := by
  intro d
  induction d using Nat.strongRecOn with
  | _ d ih =>
  intro v f w hv hs
  obtain ⟨Ap, cp, Ak, ck, rfl, hp, hk⟩ := hv.shape
  have hks := hs.kids
  have hkl := hks.len
  obtain ⟨o1, o2, o3, o4⟩ := fOk_own hs.2
  have HR : Hid (fTxt f = txtF f.kind f.name f.value f.parts (fTxts f.kids)) := fTxt_unf f
  have htl := fTxts_len hks
  have eE := fun W => escaped_any (B f.value) W (by rw [Idn.size_B]; omega)
  have eP := fun (j : Nat) (hj : j < f.parts.length) W => escaped_any (B f.parts[j]) W (by rw [Idn.size_B]; have := o4 _ (List.getElem_mem hj); omega)
  simp only [Idn.L_B] at eE eP
  have el := escF_len f.value
  have jl := Idn.length_joinL [42] 300000 (f.parts.map escF) (fun x hx => by
    obtain ⟨y, hy, rfl⟩ := List.mem_map.1 hx
    have := escF_len y
    have := o4 y hy
    omega)
  rw [List.length_map, List.length_singleton] at jl
  have jl2 : f.parts.length * (300000 + 1) ≤ 1000 * (300000 + 1) := Nat.mul_le_mul_right _ o3
  generalize fTxt f = R at *
  clear hv
  go_enter Tryz.func39, Tryz.ntmps39
  go_upto_region 1 with fail
  with_reducible refine gen1 (R := fun W => Code.wp Tryz.prog _ _ _ W) ?_
  intro W hbW hszW hc _
  have b0 : W.cell? ⟨w.heap.size, 0, none⟩ = some (.int .i64 f.kind) := hc 0 _ rfl
  have b1 : W.cell? ⟨w.heap.size, 1, none⟩ = some (.string (B f.name)) := hc 1 _ rfl
  have b2 : W.cell? ⟨w.heap.size, 2, none⟩ = some (.string (B f.value)) := hc 2 _ rfl
  have b3 : W.cell? ⟨w.heap.size, 3, none⟩ = some (.slice Ap f.parts.length cp) := hc 3 _ rfl
  have b4 : W.cell? ⟨w.heap.size, 4, none⟩ = some (.slice Ak f.kids.length ck) := hc 4 _ rfl
  clear hc hszW
  go_wp2_with fail
  go_loopw [3, 12] (fun u i wr => ∃ k : Nat, k ≤ f.kids.length ∧ u = .string (B (fTxts (f.kids.take k))) ∧ i = .int .i64 k ∧ Below W.heap.size W wr) (fun _ i _ => f.kids.length - (intOf i).toNat)
  case atStart => exact ⟨0, Nat.zero_le _, rfl, rfl, Below.refl _ _⟩
  case round =>
    obtain ⟨k, hk9, rfl, rfl, hbr⟩ := hrel
    have hb := hbW.trans (hbr.mono hbW.size)
    by_cases hlt : k < f.kids.length
    · obtain ⟨g, off, Ap', cp', Ak', ck', hA, hg, c0, c1, c2, c3, c4, hd, hkid⟩ := FltsV.kid2 (FltsV.keep hk hb) hlt
      subst hA
      have hltI : (k : Int) < (f.kids.length : Int) := by omega
      have hmem := List.getElem_mem hlt
      go_upto_region 5 with fail
      with_reducible refine gen1 (R := fun W => Code.wp Tryz.prog _ _ _ W) ?_
      intro W5 hbW5 hsz5 hc5 _
      have k0 : W5.cell? ⟨wr.heap.size, 0, none⟩ = some (.int .i64 f.kids[k].kind) := hc5 0 _ rfl
      have k1 : W5.cell? ⟨wr.heap.size, 1, none⟩ = some (.string (B f.kids[k].name)) := hc5 1 _ rfl
      have k2 : W5.cell? ⟨wr.heap.size, 2, none⟩ = some (.string (B f.kids[k].value)) := hc5 2 _ rfl
      have k3 : W5.cell? ⟨wr.heap.size, 3, none⟩ = some (.slice Ap' f.kids[k].parts.length cp') := hc5 3 _ rfl
      have k4 : W5.cell? ⟨wr.heap.size, 4, none⟩ = some (.slice Ak' f.kids[k].kids.length ck') := hc5 4 _ rfl
      have hcall := ih (d - 1) (by omega) _ f.kids[k] W5 (FltV.on (FltV.mono hkid hb.size) hbW5) (hks.mem hmem)
      have HT := Lib.hid (fTxts_take hlt)
      have hl1 := fTxts_part f.kids (k + 1)
      rw [fTxts_take hlt, List.length_append] at hl1
      have a1 := fun W => run_add (P := Tryz.prog) (a := fTxts (f.kids.take k)) (b := fTxt f.kids[k]) rfl rfl (by omega) W
      have hbr5 := hbr.trans (hbW5.mono hbr.size)
      generalize fTxt f.kids[k] = tk at *
      generalize fTxts (f.kids.take k) = ta at *
      clear hc5 hsz5 hkid c0 c1 c2 c3 c4 hbW5 ih hk hl1 hbr hb b0 b1 b2 b3 b4 HR eE eP
      go_wp2_with fail
      refine hcall.mono ?_
      rintro e w6 ⟨rfl, hb6⟩
      clear hcall k0 k1 k2 k3 k4
      go_wp2_with fail
      go_roundw
      case rel => exact ⟨k + 1, by omega, by rw [HT.out], by go_num, hbr5.trans (hb6.mono hbr5.size)⟩
      case measure => simp [intOf]; omega
    · have hkk : k = f.kids.length := by omega
      have hltI : ¬ (k : Int) < (f.kids.length : Int) := by omega
      rw [hkk, List.take_of_length_le (Nat.le_refl _)]
      replace b0 := cell_later hbr b0
      replace b1 := cell_later hbr b1
      replace b2 := cell_later hbr b2
      replace b3 := cell_later hbr b3
      replace hp := SlV.keep hp hb
      clear ih hk b4 hks hbr
      rw [← hkk]
      generalize fTxts f.kids = T at *
      clear hkk
      generalize hkd : f.kind = kd at *
      clear hkd
      rcases kinds kd with rfl | rfl | rfl | rfl | rfl | rfl | rfl | rfl | hk9
      · have HF : Hid (R = [40, 38] ++ T ++ [41]) := HR.out
        have a1 := fun W => run_add (P := Tryz.prog) (s := ⟨#[40, 38]⟩) (a := [40, 38]) (b := T) rfl rfl (by simp; omega) W
        have a2 := fun W => run_add (P := Tryz.prog) (a := [40, 38] ++ T) (b := [41]) (t := ⟨#[41]⟩) rfl rfl (by simp; omega) W
        generalize [40, 38] ++ T = T1 at *
        clear HR eE eP hp jl jl2 el htl o4
        go_wp2_with fail
        go_ret
        exact ⟨ret_str (by rw [HF.out]), hb⟩
      · have HF : Hid (R = [40, 124] ++ T ++ [41]) := HR.out
        have a1 := fun W => run_add (P := Tryz.prog) (s := ⟨#[40, 124]⟩) (a := [40, 124]) (b := T) rfl rfl (by simp; omega) W
        have a2 := fun W => run_add (P := Tryz.prog) (a := [40, 124] ++ T) (b := [41]) (t := ⟨#[41]⟩) rfl rfl (by simp; omega) W
        generalize [40, 124] ++ T = T1 at *
        clear HR eE eP hp jl jl2 el htl o4
        go_wp2_with fail
        go_ret
        exact ⟨ret_str (by rw [HF.out]), hb⟩
      · have HF : Hid (R = [40, 33] ++ T ++ [41]) := HR.out
        have a1 := fun W => run_add (P := Tryz.prog) (s := ⟨#[40, 33]⟩) (a := [40, 33]) (b := T) rfl rfl (by simp; omega) W
        have a2 := fun W => run_add (P := Tryz.prog) (a := [40, 33] ++ T) (b := [41]) (t := ⟨#[41]⟩) rfl rfl (by simp; omega) W
        generalize [40, 33] ++ T = T1 at *
        clear HR eE eP hp jl jl2 el htl o4
        go_wp2_with fail
        go_ret
        exact ⟨ret_str (by rw [HF.out]), hb⟩
      · have HF : Hid (R = [40] ++ f.name ++ [61] ++ escF f.value ++ [41]) := HR.out
        have a1 := fun W => run_add (P := Tryz.prog) (s := ⟨#[40]⟩) (a := [40]) (b := f.name) rfl rfl (by simp; omega) W
        have a2 := fun W => run_add (P := Tryz.prog) (a := [40] ++ f.name) (b := [61]) (t := ⟨#[61]⟩) rfl rfl (by simp; omega) W
        have a3 := fun W => run_add (P := Tryz.prog) (a := [40] ++ f.name ++ [61]) (b := escF f.value) rfl rfl (by simp; omega) W
        have a4 := fun W => run_add (P := Tryz.prog) (a := [40] ++ f.name ++ [61] ++ escF f.value) (b := [41]) (t := ⟨#[41]⟩) rfl rfl (by simp; omega) W
        generalize escF f.value = ev at *
        generalize [40] ++ f.name = t1 at *
        generalize t1 ++ [61] = t2 at *
        generalize t2 ++ ev = t3 at *
        obtain ⟨W3, hW3⟩ : ∃ W3 : World, W3 = wr := ⟨_, rfl⟩
        subst hW3
        have k1 := cell_regrown b1
        have k2 := cell_regrown b2
        have q1 := cq (W := W3) fun W' _ => eE W'
        clear HR eE eP hp jl jl2 el htl o4
        go_wp2_with fail
        refine wp_region_quiet_below (by kernel_rfl) (by kernel_rfl) ?_
        repeat (first | go_big_quiet_step ((go_at_call 70; exact q1 _ _)) | quiet_step ((go_at_call 70; exact q1 _ _)))
        refine wpQuiet_nil ?_
        intro _ hw'
        obtain ⟨⟨dq, osq⟩, hw''⟩ := hw'
        subst hw''
        have hb4 := below_regrown W3 dq osq
        generalize grow (redrawn W3 dq) osq = W4 at hb4 ⊢
        have hb5 := hb.trans (hb4.mono hb.size)
        clear q1 k1 k2 b1 b2
        go_wp2_with fail
        go_ret
        exact ⟨ret_str (by rw [HF.out]), hb5⟩
      · have HF : Hid (R = [40] ++ f.name ++ [62, 61] ++ escF f.value ++ [41]) := HR.out
        have a1 := fun W => run_add (P := Tryz.prog) (s := ⟨#[40]⟩) (a := [40]) (b := f.name) rfl rfl (by simp; omega) W
        have a2 := fun W => run_add (P := Tryz.prog) (a := [40] ++ f.name) (b := [62, 61]) (t := ⟨#[62, 61]⟩) rfl rfl (by simp; omega) W
        have a3 := fun W => run_add (P := Tryz.prog) (a := [40] ++ f.name ++ [62, 61]) (b := escF f.value) rfl rfl (by simp; omega) W
        have a4 := fun W => run_add (P := Tryz.prog) (a := [40] ++ f.name ++ [62, 61] ++ escF f.value) (b := [41]) (t := ⟨#[41]⟩) rfl rfl (by simp; omega) W
        generalize escF f.value = ev at *
        generalize [40] ++ f.name = t1 at *
        generalize t1 ++ [62, 61] = t2 at *
        generalize t2 ++ ev = t3 at *
        obtain ⟨W3, hW3⟩ : ∃ W3 : World, W3 = wr := ⟨_, rfl⟩
        subst hW3
        have k1 := cell_regrown b1
        have k2 := cell_regrown b2
        have q1 := cq (W := W3) fun W' _ => eE W'
        clear HR eE eP hp jl jl2 el htl o4
        go_wp2_with fail
        refine wp_region_quiet_below (by kernel_rfl) (by kernel_rfl) ?_
        repeat (first | go_big_quiet_step ((go_at_call 70; exact q1 _ _)) | quiet_step ((go_at_call 70; exact q1 _ _)))
        refine wpQuiet_nil ?_
        intro _ hw'
        obtain ⟨⟨dq, osq⟩, hw''⟩ := hw'
        subst hw''
        have hb4 := below_regrown W3 dq osq
        generalize grow (redrawn W3 dq) osq = W4 at hb4 ⊢
        have hb5 := hb.trans (hb4.mono hb.size)
        clear q1 k1 k2 b1 b2
        go_wp2_with fail
        go_ret
        exact ⟨ret_str (by rw [HF.out]), hb5⟩
      · have HF : Hid (R = [40] ++ f.name ++ [60, 61] ++ escF f.value ++ [41]) := HR.out
        have a1 := fun W => run_add (P := Tryz.prog) (s := ⟨#[40]⟩) (a := [40]) (b := f.name) rfl rfl (by simp; omega) W
        have a2 := fun W => run_add (P := Tryz.prog) (a := [40] ++ f.name) (b := [60, 61]) (t := ⟨#[60, 61]⟩) rfl rfl (by simp; omega) W
        have a3 := fun W => run_add (P := Tryz.prog) (a := [40] ++ f.name ++ [60, 61]) (b := escF f.value) rfl rfl (by simp; omega) W
        have a4 := fun W => run_add (P := Tryz.prog) (a := [40] ++ f.name ++ [60, 61] ++ escF f.value) (b := [41]) (t := ⟨#[41]⟩) rfl rfl (by simp; omega) W
        generalize escF f.value = ev at *
        generalize [40] ++ f.name = t1 at *
        generalize t1 ++ [60, 61] = t2 at *
        generalize t2 ++ ev = t3 at *
        obtain ⟨W3, hW3⟩ : ∃ W3 : World, W3 = wr := ⟨_, rfl⟩
        subst hW3
        have k1 := cell_regrown b1
        have k2 := cell_regrown b2
        have q1 := cq (W := W3) fun W' _ => eE W'
        clear HR eE eP hp jl jl2 el htl o4
        go_wp2_with fail
        refine wp_region_quiet_below (by kernel_rfl) (by kernel_rfl) ?_
        repeat (first | go_big_quiet_step ((go_at_call 70; exact q1 _ _)) | quiet_step ((go_at_call 70; exact q1 _ _)))
        refine wpQuiet_nil ?_
        intro _ hw'
        obtain ⟨⟨dq, osq⟩, hw''⟩ := hw'
        subst hw''
        have hb4 := below_regrown W3 dq osq
        generalize grow (redrawn W3 dq) osq = W4 at hb4 ⊢
        have hb5 := hb.trans (hb4.mono hb.size)
        clear q1 k1 k2 b1 b2
        go_wp2_with fail
        go_ret
        exact ⟨ret_str (by rw [HF.out]), hb5⟩
      · have HF : Hid (R = [40] ++ f.name ++ [61, 42, 41]) := HR.out
        have a1 := fun W => run_add (P := Tryz.prog) (s := ⟨#[40]⟩) (a := [40]) (b := f.name) rfl rfl (by simp; omega) W
        have a2 := fun W => run_add (P := Tryz.prog) (a := [40] ++ f.name) (b := [61, 42, 41]) (t := ⟨#[61, 42, 41]⟩) rfl rfl (by simp; omega) W
        generalize [40] ++ f.name = t1 at *
        clear HR eE eP hp jl jl2 el htl o4
        go_wp2_with fail
        go_ret
        exact ⟨ret_str (by rw [HF.out]), hb⟩
      · have HF : Hid (R = [40] ++ f.name ++ [61] ++ Idn.joinL [42] (f.parts.map escF) ++ [41]) := HR.out
        obtain ⟨wo, hwo⟩ : ∃ wo : World, wo = wr := ⟨_, rfl⟩
        subst hwo
        clear HR eE b2
        go_wp2_with fail
        go_loopw [6, 80] (fun u i wx => ∃ k : Nat, k ≤ f.parts.length ∧ i = .int .i64 k ∧ wx.ownsRow wo.heap.size 9 1 u k (escV (f.parts.take k)) ∧ Below wo.heap.size wo wx) (fun _ i _ => f.parts.length - (intOf i).toNat)
        case atStart => exact ⟨0, Nat.zero_le _, rfl, World.ownsRow_nil _ _ _ _, Below.refl _ _⟩
        case round =>
          obtain ⟨j, hj9, rfl, hown, hbx⟩ := hrel
          obtain ⟨A, c, rfl⟩ := own_shape hown
          obtain ⟨wz, hwz⟩ : ∃ wz : World, wz = wr := ⟨_, rfl⟩
          subst hwz
          by_cases hjl : j < f.parts.length
          · obtain ⟨g, off, hA, hgl, d0⟩ := StrsV.cell (SlV.keep hp (hbx.mono hb.size)) hjl
            subst hA
            have hjI : (j : Int) < (f.parts.length : Int) := by omega
            have hE := eP j hjl wz
            have hsucc : escV (f.parts.take (j + 1)) = escV (f.parts.take j) ++ [.string (B (escF f.parts[j]))] := by
              unfold escV
              rw [List.take_succ_eq_append_getElem hjl, List.map_append, List.map_append]; rfl
            have HS := Lib.hid hsucc
            generalize escF f.parts[j] = ej at *
            clear eP hp HF hsucc b1 b3
            go_wp2_with fail
            refine hE.mono ?_
            rintro e w6 ⟨rfl, hb6⟩
            have hown6 := own_below hown hb6
            have hbx6 := hbx.trans (hb6.mono hbx.size)
            have hs6 := hbx6.size
            clear hE hown d0
            go_wp2_with (at_builtin; refine wpList_push w6 rfl _ _ 23 rfl wo.heap.size 9 (.string ⟨#[]⟩) 1 16 Tryz.underlying23 info_str rfl (by decide) _ _ _ hown6 rfl [.string (B ej)] rfl rfl (by intro u hu; simp at hu; subst hu; rfl) (by omega) hs6 ?_ rfl)
            intro v7 w7 hown7 _ _ hb7 _
            clear hown6
            go_wp2_with fail
            go_roundw
            case rel => exact ⟨j + 1, by omega, by go_num, by rw [HS.out]; exact hown7, hbx6.trans hb7⟩
            case measure => simp [intOf]; omega
          · have hjj : j = f.parts.length := by omega
            have hjI : ¬ (j : Int) < (f.parts.length : Int) := by omega
            subst hjj
            have hown8 : wz.ownsRow wo.heap.size 9 1 (.slice A f.parts.length c) (f.parts.map escF).length ((f.parts.map escF).map sv) := by
              rw [List.take_of_length_le (Nat.le_refl _)] at hown
              rw [List.length_map]; exact hown
            have hS8 := StrsV.of_own hown8
            have hJ := fun W (hW : Below wz.heap.size wz W) => join_any _ (f.parts.map escF) ⟨#[42]⟩ W (SlV.mono (SlV.keep hS8 hW) hW.size) (by rw [List.length_map]; omega) (fun x hx => by
              obtain ⟨y, hy, rfl⟩ := List.mem_map.1 hx
              have := escF_len y
              have := o4 y hy
              omega) (by decide)
            rw [show L (⟨#[42]⟩ : ByteArray) = [42] from rfl] at hJ
            have hbz : Below w.heap.size w wz := hb.trans (hbx.mono hb.size)
            replace b1 := cell_later hbx b1
            have a1 := fun W => run_add (P := Tryz.prog) (s := ⟨#[40]⟩) (a := [40]) (b := f.name) rfl rfl (by simp; omega) W
            have a2 := fun W => run_add (P := Tryz.prog) (a := [40] ++ f.name) (b := [61]) (t := ⟨#[61]⟩) rfl rfl (by simp; omega) W
            have a3 := fun W => run_add (P := Tryz.prog) (a := [40] ++ f.name ++ [61]) (b := Idn.joinL [42] (f.parts.map escF)) rfl rfl (by simp; omega) W
            have a4 := fun W => run_add (P := Tryz.prog) (a := [40] ++ f.name ++ [61] ++ Idn.joinL [42] (f.parts.map escF)) (b := [41]) (t := ⟨#[41]⟩) rfl rfl (by simp; omega) W
            generalize Idn.joinL [42] (f.parts.map escF) = jn at *
            generalize [40] ++ f.name = t1 at *
            generalize t1 ++ [61] = t2 at *
            generalize t2 ++ jn = t3 at *
            have k1 := cell_regrown b1
            have q1 := cq (W := wz) fun W' hW' => hJ W' hW'
            clear hJ hS8 hown8 hown hp eP o4 jl jl2 el htl hbx b3
            go_wp2_with fail
            refine wp_region_quiet_below (by kernel_rfl) (by kernel_rfl) ?_
            repeat (first | go_big_quiet_step ((go_at_call 71; exact q1 _ _)) | quiet_step ((go_at_call 71; exact q1 _ _)))
            refine wpQuiet_nil ?_
            intro _ hw'
            obtain ⟨⟨dq, osq⟩, hw''⟩ := hw'
            subst hw''
            have hb4 := below_regrown wz dq osq
            generalize grow (redrawn wz dq) osq = W4 at hb4 ⊢
            have hb5 := hbz.trans (hb4.mono hbz.size)
            clear q1 k1 b1
            go_wp2_with fail
            go_ret
            exact ⟨ret_str (by rw [HF.out]), hb5⟩
      · obtain ⟨e1, e2, e3, e4, e5, e6, e7, _⟩ := hk9
        have n1 := beq_eq_false_iff_ne.1 e1
        have n2 := beq_eq_false_iff_ne.1 e2
        have n3 := beq_eq_false_iff_ne.1 e3
        have n4 := beq_eq_false_iff_ne.1 e4
        have n5 := beq_eq_false_iff_ne.1 e5
        have n6 := beq_eq_false_iff_ne.1 e6
        have n7 := beq_eq_false_iff_ne.1 e7
        have HF : Hid (R = [40] ++ f.name ++ [61] ++ Idn.joinL [42] (f.parts.map escF) ++ [41]) := by
          show _ = _; rw [HR.out, txtF, if_neg (by omega), if_neg (by omega), if_neg (by omega), if_neg (by omega), if_neg (by omega), if_neg (by omega), if_neg (by omega)]
  
        obtain ⟨wo, hwo⟩ : ∃ wo : World, wo = wr := ⟨_, rfl⟩
        subst hwo
        clear HR eE n1 n2 n3 n4 n5 n6 n7 b2
        go_wp2_with fail
        go_loopw [6, 80] (fun u i wx => ∃ k : Nat, k ≤ f.parts.length ∧ i = .int .i64 k ∧ wx.ownsRow wo.heap.size 9 1 u k (escV (f.parts.take k)) ∧ Below wo.heap.size wo wx) (fun _ i _ => f.parts.length - (intOf i).toNat)
        case atStart => exact ⟨0, Nat.zero_le _, rfl, World.ownsRow_nil _ _ _ _, Below.refl _ _⟩
        case round =>
          obtain ⟨j, hj9, rfl, hown, hbx⟩ := hrel
          obtain ⟨A, c, rfl⟩ := own_shape hown
          obtain ⟨wz, hwz⟩ : ∃ wz : World, wz = wr := ⟨_, rfl⟩
          subst hwz
          by_cases hjl : j < f.parts.length
          · obtain ⟨g, off, hA, hgl, d0⟩ := StrsV.cell (SlV.keep hp (hbx.mono hb.size)) hjl
            subst hA
            have hjI : (j : Int) < (f.parts.length : Int) := by omega
            have hE := eP j hjl wz
            have hsucc : escV (f.parts.take (j + 1)) = escV (f.parts.take j) ++ [.string (B (escF f.parts[j]))] := by
              unfold escV
              rw [List.take_succ_eq_append_getElem hjl, List.map_append, List.map_append]; rfl
            have HS := Lib.hid hsucc
            generalize escF f.parts[j] = ej at *
            clear eP hp HF hsucc b1 b3
            go_wp2_with fail
            refine hE.mono ?_
            rintro e w6 ⟨rfl, hb6⟩
            have hown6 := own_below hown hb6
            have hbx6 := hbx.trans (hb6.mono hbx.size)
            have hs6 := hbx6.size
            clear hE hown d0
            go_wp2_with (at_builtin; refine wpList_push w6 rfl _ _ 23 rfl wo.heap.size 9 (.string ⟨#[]⟩) 1 16 Tryz.underlying23 info_str rfl (by decide) _ _ _ hown6 rfl [.string (B ej)] rfl rfl (by intro u hu; simp at hu; subst hu; rfl) (by omega) hs6 ?_ rfl)
            intro v7 w7 hown7 _ _ hb7 _
            clear hown6
            go_wp2_with fail
            go_roundw
            case rel => exact ⟨j + 1, by omega, by go_num, by rw [HS.out]; exact hown7, hbx6.trans hb7⟩
            case measure => simp [intOf]; omega
          · have hjj : j = f.parts.length := by omega
            have hjI : ¬ (j : Int) < (f.parts.length : Int) := by omega
            subst hjj
            have hown8 : wz.ownsRow wo.heap.size 9 1 (.slice A f.parts.length c) (f.parts.map escF).length ((f.parts.map escF).map sv) := by
              rw [List.take_of_length_le (Nat.le_refl _)] at hown
              rw [List.length_map]; exact hown
            have hS8 := StrsV.of_own hown8
            have hJ := fun W (hW : Below wz.heap.size wz W) => join_any _ (f.parts.map escF) ⟨#[42]⟩ W (SlV.mono (SlV.keep hS8 hW) hW.size) (by rw [List.length_map]; omega) (fun x hx => by
              obtain ⟨y, hy, rfl⟩ := List.mem_map.1 hx
              have := escF_len y
              have := o4 y hy
              omega) (by decide)
            rw [show L (⟨#[42]⟩ : ByteArray) = [42] from rfl] at hJ
            have hbz : Below w.heap.size w wz := hb.trans (hbx.mono hb.size)
            replace b1 := cell_later hbx b1
            have a1 := fun W => run_add (P := Tryz.prog) (s := ⟨#[40]⟩) (a := [40]) (b := f.name) rfl rfl (by simp; omega) W
            have a2 := fun W => run_add (P := Tryz.prog) (a := [40] ++ f.name) (b := [61]) (t := ⟨#[61]⟩) rfl rfl (by simp; omega) W
            have a3 := fun W => run_add (P := Tryz.prog) (a := [40] ++ f.name ++ [61]) (b := Idn.joinL [42] (f.parts.map escF)) rfl rfl (by simp; omega) W
            have a4 := fun W => run_add (P := Tryz.prog) (a := [40] ++ f.name ++ [61] ++ Idn.joinL [42] (f.parts.map escF)) (b := [41]) (t := ⟨#[41]⟩) rfl rfl (by simp; omega) W
            generalize Idn.joinL [42] (f.parts.map escF) = jn at *
            generalize [40] ++ f.name = t1 at *
            generalize t1 ++ [61] = t2 at *
            generalize t2 ++ jn = t3 at *
            have k1 := cell_regrown b1
            have q1 := cq (W := wz) fun W' hW' => hJ W' hW'
            clear hJ hS8 hown8 hown hp eP o4 jl jl2 el htl hbx b3
            go_wp2_with fail
            refine wp_region_quiet_below (by kernel_rfl) (by kernel_rfl) ?_
            repeat (first | go_big_quiet_step ((go_at_call 71; exact q1 _ _)) | quiet_step ((go_at_call 71; exact q1 _ _)))
            refine wpQuiet_nil ?_
            intro _ hw'
            obtain ⟨⟨dq, osq⟩, hw''⟩ := hw'
            subst hw''
            have hb4 := below_regrown wz dq osq
            generalize grow (redrawn wz dq) osq = W4 at hb4 ⊢
            have hb5 := hbz.trans (hb4.mono hbz.size)
            clear q1 k1 b1
            go_wp2_with fail
            go_ret
            exact ⟨ret_str (by rw [HF.out]), hb5⟩
theorem fText_any (d : Nat) (v : Value) (f : Flt) (w : World) (hv : FltV w w.heap.size d v f) (hs : FSm 1000 f) :
  Calls Tryz.prog 16 #[v] w fun e w' => e = .returned (.tuple #[.string (B (fText f).1), .int .i64 (fText f).2]) ∧ Below w.heap.size w w' := by
 have kC := fun W (hW : Below w.heap.size w W) => fCheck_any d _ f W (hv.on hW) hs
 have kT := fun W (hW : Below w.heap.size w W) => ftext_any d _ f W (hv.on hW) hs
 have HR : Hid (fText f = if fCheck f != 0 then ([], fCheck f) else if 4096 < (fTxt f).length then ([], 3) else (fTxt f, 0)) := rfl
 obtain ⟨Ap, cp, Ak, ck, rfl, hp, hk⟩ := hv.shape
 have hz := Idn.size_B (fTxt f)
 generalize fText f = R at *
 generalize fCheck f = ec at *
 generalize fTxt f = t at *
 clear hp hk hv hs
 go_enter Tryz.func16, Tryz.ntmps16
 go_upto_region 1 with fail
 with_reducible refine gen1 (R := fun W => Code.wp Tryz.prog _ _ _ W) ?_
 intro W hbW hszW hc _
 have b0 : W.cell? ⟨w.heap.size, 0, none⟩ = some (.int .i64 f.kind) := hc 0 _ rfl
 have b1 : W.cell? ⟨w.heap.size, 1, none⟩ = some (.string (B f.name)) := hc 1 _ rfl
 have b2 : W.cell? ⟨w.heap.size, 2, none⟩ = some (.string (B f.value)) := hc 2 _ rfl
 have b3 : W.cell? ⟨w.heap.size, 3, none⟩ = some (.slice Ap f.parts.length cp) := hc 3 _ rfl
 have b4 : W.cell? ⟨w.heap.size, 4, none⟩ = some (.slice Ak f.kids.length ck) := hc 4 _ rfl
 clear hc hszW
 go_wp2_with fail
 refine (kC W hbW).mono ?_
 rintro e w1 ⟨rfl, hb1⟩
 replace b0 := cell_later hb1 b0
 replace b1 := cell_later hb1 b1
 replace b2 := cell_later hb1 b2
 replace b3 := cell_later hb1 b3
 replace b4 := cell_later hb1 b4
 have hbw1 := hbW.trans (hb1.mono hbW.size)
 clear kC hb1 hbW
 by_cases hec : ec = 0
 case neg =>
  have hI : (ec != 0) = true := by simpa using hec
  have HF : Hid (R = ([], ec)) := by show _ = _; rw [HR.out, hI]; rfl
  clear HR kT hec hz
  go_wp2_with fail
  go_ret2
  exact ⟨by rw [HF.out]; rfl, hbw1⟩
 subst hec
 have HR2 : Hid (R = if 4096 < t.length then ([], 3) else (t, 0)) := HR.out
 clear HR
 go_wp2_with fail
 refine (kT w1 hbw1).mono ?_
 rintro e w2 ⟨rfl, hb2⟩
 have hbw2 := hbw1.trans (hb2.mono hbw1.size)
 clear kT b0 b1 b2 b3 b4
 by_cases h4 : 4096 < t.length
 ·have hI : (4096 : Int) < ((B t).size : Int) := by omega
  have HF : Hid (R = ([], 3)) := by show _ = _; rw [HR2.out, if_pos h4]
  clear HR2 h4 hz
  go_wp2_with fail
  go_ret2
  exact ⟨by rw [HF.out]; rfl, hbw2⟩
 ·have hI : ¬ (4096 : Int) < ((B t).size : Int) := by omega
  have HF : Hid (R = (t, 0)) := by show _ = _; rw [HR2.out, if_neg h4]
  clear HR2 h4 hz
  go_wp2_with fail
  go_ret2
  exact ⟨by rw [HF.out]; rfl, hbw2⟩
end Go.Proofs.YtmamnmjfbadiiaaGreatDoor
/- identityref09: Nodes, level, parts, printable, form, node, Check. -/
namespace Go.Proofs.YtmamnmjfbadiiaaGreatDoor
open Go.RowKit Go.Sort
open Idn (L B Bs drop_L take_L size_L)
theorem r9_count_any : ∀ (d : Nat) (v : Value) (f : Flt) (h : Nat) (w : World), FltV w w.heap.size d v f → FSm 1000 f → h ≤ 64 →
  Calls Tryz.prog 38 #[v, .int .i64 (h : Int)] w fun e w' => e = .returned (.int .i64 ((min (h + fSize f) 65 : Nat) : Int)) ∧ Below w.heap.size w w' := by
 intro d
 induction d using Nat.strongRecOn with
 | _ d ih =>
 intro v f h w hv hs hh
 obtain ⟨Ap, cp, Ak, ck, rfl, hp, hk⟩ := hv.shape
 have hks := hs.kids
 have hkl := hks.len
 have HZ : Hid (fSize f = fSizes f.kids + 1) := by show _ = _; cases f; rfl
 have hw1 : IntKind.i64.wrap ((h : Int) + 1) = ((h + 1 : Nat) : Int) := by rw [IntWalk.i64_in _ (by omega)]; omega
 clear hp hv
 go_enter Tryz.func38, Tryz.ntmps38
 go_upto_region 1 with fail
 with_reducible refine gen1 (R := fun W => Code.wp Tryz.prog _ _ _ W) ?_
 intro W hbW hszW hc _
 have b0 : W.cell? ⟨w.heap.size, 0, none⟩ = some (.int .i64 f.kind) := hc 0 _ rfl
 have b1 : W.cell? ⟨w.heap.size, 1, none⟩ = some (.string (B f.name)) := hc 1 _ rfl
 have b2 : W.cell? ⟨w.heap.size, 2, none⟩ = some (.string (B f.value)) := hc 2 _ rfl
 have b3 : W.cell? ⟨w.heap.size, 3, none⟩ = some (.slice Ap f.parts.length cp) := hc 3 _ rfl
 have b4 : W.cell? ⟨w.heap.size, 4, none⟩ = some (.slice Ak f.kids.length ck) := hc 4 _ rfl
 clear hc hszW
 clear b0 b1 b2 b3
 go_wp2_with fail
 go_loopw [5, 6] (fun n i wr => ∃ (k m : Nat), k ≤ f.kids.length ∧ m ≤ 65 ∧ n = .int .i64 (m : Int) ∧ i = .int .i64 (k : Int) ∧ Below W.heap.size W wr ∧ Hid (m = min (h + 1 + fSizes (f.kids.take k)) 65)) (fun _ i _ => f.kids.length - (intOf i).toNat)
 case atStart => exact ⟨0, h + 1, Nat.zero_le _, by omega, by simp, rfl, Below.refl _ _, by show _ = _; simp [fSizes]; omega⟩
 case round =>
  obtain ⟨k, m, hk9, hm9, rfl, rfl, hbr, hinv⟩ := hrel
  have hb := hbW.trans (hbr.mono hbW.size)
  replace b4 := cell_later hbr b4
  by_cases hlt : k < f.kids.length
  ·obtain ⟨g, off, Ap', cp', Ak', ck', hA, hg, c0, c1, c2, c3, c4, hd, hkid⟩ := FltsV.kid2 (FltsV.keep hk hb) hlt
   subst hA
   have hltI : (k : Int) < (f.kids.length : Int) := by omega
   by_cases hm : m ≤ 64
   ·have hmI : (m : Int) ≤ 64 := by omega
    have hcall := ih (d - 1) (by omega) _ f.kids[k] m wr (FltV.mono hkid hb.size) (hks.mem (List.getElem_mem hlt)) hm
    have HT := Lib.hid (fSizes_take hlt)
    obtain ⟨q, hq⟩ : ∃ q : Nat, q = min (m + fSize f.kids[k]) 65 := ⟨_, rfl⟩
    rw [← hq] at hcall
    have HQ := Lib.hid hq
    have hq9 : q ≤ 65 := by omega
    clear ih hkid hk hm hq
    go_wp2_with fail
    refine hcall.mono ?_
    rintro e w6 ⟨rfl, hb6⟩
    have HV : Hid (q = min (h + 1 + fSizes (f.kids.take (k + 1))) 65) := by
     have h1 := hinv.out
     have h2 := HT.out
     have h3 := HQ.out
     show _ = _; omega
    clear hcall c0 c1 c2 c3 c4 hinv HT HQ
    go_wp2_with fail
    go_roundw
    case rel => exact ⟨k + 1, q, by omega, hq9, rfl, by go_num, hbr.trans (hb6.mono hbr.size), HV⟩
    case measure => simp [intOf]; omega
   ·have hmI : ¬ (m : Int) ≤ 64 := by omega
    have HF : Hid (m = min (h + fSize f) 65) := by
     have h1 := hinv.out
     have h2 := HZ.out
     have h3 := fSizes_part f.kids k
     show _ = _; omega
    clear hinv ih hk hkid
    go_wp2_with fail
    go_ret
    exact ⟨ret_int (by rw [← HF.out]), hb⟩
  ·have hltI : ¬ (k : Int) < (f.kids.length : Int) := by omega
   have HF : Hid (m = min (h + fSize f) 65) := by
    have h1 := hinv.out
    have h2 := HZ.out
    rw [List.take_of_length_le (by omega)] at h1
    show _ = _; omega
   clear hinv ih hk
   go_wp2_with fail
   go_ret
   exact ⟨ret_int (by rw [← HF.out]), hb⟩
theorem r9_Nodes_any (d : Nat) (v : Value) (f : Flt) (w : World) (hv : FltV w w.heap.size d v f) (hs : FSm 1000 f) :
  Calls Tryz.prog 15 #[v] w fun e w' => e = .returned (.int .i64 ((min (fSize f) 65 : Nat) : Int)) ∧ Below w.heap.size w w' := by
 have kC := fun W (hW : Below w.heap.size w W) => show Calls Tryz.prog 38 #[v, .int .i64 0] W _ from r9_count_any d _ f 0 W (hv.on hW) hs (by decide)
 simp only [Nat.zero_add] at kC
 obtain ⟨Ap, cp, Ak, ck, rfl, hp, hk⟩ := hv.shape
 obtain ⟨q, hq⟩ : ∃ q : Nat, q = min (fSize f) 65 := ⟨_, rfl⟩
 rw [← hq] at kC ⊢
 clear hp hk hv hq
 go_enter Tryz.func15, Tryz.ntmps15
 go_upto_region 1 with fail
 with_reducible refine gen1 (R := fun W => Code.wp Tryz.prog _ _ _ W) ?_
 intro W hbW hszW hc _
 have b0 : W.cell? ⟨w.heap.size, 0, none⟩ = some (.int .i64 f.kind) := hc 0 _ rfl
 have b1 : W.cell? ⟨w.heap.size, 1, none⟩ = some (.string (B f.name)) := hc 1 _ rfl
 have b2 : W.cell? ⟨w.heap.size, 2, none⟩ = some (.string (B f.value)) := hc 2 _ rfl
 have b3 : W.cell? ⟨w.heap.size, 3, none⟩ = some (.slice Ap f.parts.length cp) := hc 3 _ rfl
 have b4 : W.cell? ⟨w.heap.size, 4, none⟩ = some (.slice Ak f.kids.length ck) := hc 4 _ rfl
 clear hc hszW
 go_wp2_with fail
 refine (kC W hbW).mono ?_
 rintro e w2 ⟨rfl, hb2⟩
 go_wp2_with fail
 go_ret
 exact ⟨rfl, hbW.trans (hb2.mono hbW.size)⟩
theorem fDeps_take {l : List Flt} {k : Nat} (h : k < l.length) : fDeps (l.take (k + 1)) = max (fDeps (l.take k)) (fDep l[k]) := by
 have ha : ∀ a b : List Flt, fDeps (a ++ b) = max (fDeps a) (fDeps b) := fun a b => by
  induction a with
  | nil => simp [fDeps]
  | cons x a iha => rw [List.cons_append, fDeps, fDeps, iha]; omega
 rw [List.take_succ_eq_append_getElem h, ha, fDeps, fDeps]; simp
theorem r9_level_any : ∀ (d : Nat) (v : Value) (f : Flt) (w : World), FltV w w.heap.size d v f → FSm 1000 f →
  Calls Tryz.prog 36 #[v] w fun e w' => e = .returned (.int .i64 (fDep f : Int)) ∧ Below w.heap.size w w' := by
 intro d
 induction d using Nat.strongRecOn with
 | _ d ih =>
 intro v f w hv hs
 obtain ⟨Ap, cp, Ak, ck, rfl, hp, hk⟩ := hv.shape
 have hks := hs.kids
 have hkl := hks.len
 have HZ : Hid (fDep f = fDeps f.kids + 1) := by show _ = _; cases f; rfl
 clear hp hv
 go_enter Tryz.func36, Tryz.ntmps36
 go_upto_region 1 with fail
 with_reducible refine gen1 (R := fun W => Code.wp Tryz.prog _ _ _ W) ?_
 intro W hbW hszW hc _
 have b0 : W.cell? ⟨w.heap.size, 0, none⟩ = some (.int .i64 f.kind) := hc 0 _ rfl
 have b1 : W.cell? ⟨w.heap.size, 1, none⟩ = some (.string (B f.name)) := hc 1 _ rfl
 have b2 : W.cell? ⟨w.heap.size, 2, none⟩ = some (.string (B f.value)) := hc 2 _ rfl
 have b3 : W.cell? ⟨w.heap.size, 3, none⟩ = some (.slice Ap f.parts.length cp) := hc 3 _ rfl
 have b4 : W.cell? ⟨w.heap.size, 4, none⟩ = some (.slice Ak f.kids.length ck) := hc 4 _ rfl
 clear hc hszW
 clear b0 b1 b2 b3
 go_wp2_with fail
 go_loopw [3, 4] (fun n i wr => ∃ (k m : Nat), k ≤ f.kids.length ∧ m ≤ 1000 ∧ n = .int .i64 (m : Int) ∧ i = .int .i64 (k : Int) ∧ Below W.heap.size W wr ∧ Hid (m = fDeps (f.kids.take k))) (fun _ i _ => f.kids.length - (intOf i).toNat)
 case atStart => exact ⟨0, 0, Nat.zero_le _, by omega, rfl, rfl, Below.refl _ _, rfl⟩
 case round =>
  obtain ⟨k, m, hk9, hm9, rfl, rfl, hbr, hinv⟩ := hrel
  have hb := hbW.trans (hbr.mono hbW.size)
  replace b4 := cell_later hbr b4
  by_cases hlt : k < f.kids.length
  ·obtain ⟨g, off, Ap', cp', Ak', ck', hA, hg, c0, c1, c2, c3, c4, hd, hkid⟩ := FltsV.kid2 (FltsV.keep hk hb) hlt
   subst hA
   have hltI : (k : Int) < (f.kids.length : Int) := by omega
   have hcall := ih (d - 1) (by omega) _ f.kids[k] wr (FltV.mono hkid hb.size) (hks.mem (List.getElem_mem hlt))
   have HT := Lib.hid (fDeps_take hlt)
   have hq9 : fDep f.kids[k] ≤ 1000 := Nat.le_trans (fDep_size _) (hks.mem (List.getElem_mem hlt)).1
   generalize fDep f.kids[k] = q at *
   clear ih hkid hk
   by_cases hgt : m < q
   ·have hI : (m : Int) < (q : Int) := by omega
    have HV : Hid (q = fDeps (f.kids.take (k + 1))) := by show _ = _; rw [HT.out, ← hinv.out]; omega
    clear hinv HT hgt
    go_wp2_with fail
    refine hcall.mono ?_
    rintro e w6 ⟨rfl, hb6⟩
    clear hcall c0 c1 c2 c3 c4
    go_wp2_with fail
    go_roundw
    case rel => exact ⟨k + 1, q, by omega, hq9, rfl, by go_num, hbr.trans (hb6.mono hbr.size), HV⟩
    case measure => simp [intOf]; omega
   ·have hI : ¬ (m : Int) < (q : Int) := by omega
    have HV : Hid (m = fDeps (f.kids.take (k + 1))) := by show _ = _; rw [HT.out, ← hinv.out]; omega
    clear hinv HT hgt
    go_wp2_with fail
    refine hcall.mono ?_
    rintro e w6 ⟨rfl, hb6⟩
    clear hcall c0 c1 c2 c3 c4
    go_wp2_with fail
    go_roundw
    case rel => exact ⟨k + 1, m, by omega, hm9, rfl, by go_num, hbr.trans (hb6.mono hbr.size), HV⟩
    case measure => simp [intOf]; omega
  ·have hltI : ¬ (k : Int) < (f.kids.length : Int) := by omega
   have hw1 : IntKind.i64.wrap ((m : Int) + 1) = ((m + 1 : Nat) : Int) := by rw [IntWalk.i64_in _ (by omega)]; omega
   have HF : Hid (fDep f = m + 1) := by
    have h1 := hinv.out
    have h2 := HZ.out
    rw [List.take_of_length_le (by omega)] at h1
    show _ = _; omega
   clear hinv ih hk
   go_wp2_with fail
   go_ret
   exact ⟨ret_int (by rw [HF.out]; first | rfl | simp), hb⟩
theorem r9_comp_any (k : Int) (w : World) : Calls Tryz.prog 66 #[.int .i64 k] w fun e w' => e = .returned (.bool (isCmp k)) ∧ w = w' := by
 have HP : Hid (isCmp k = (decide (4 ≤ k) && decide (k ≤ 8))) := rfl
 by_cases h4 : 4 ≤ k
 ·by_cases h8 : k ≤ 8
  ·have HF : Hid (isCmp k = true) := by show _ = _; rw [HP.out, decide_eq_true h4, decide_eq_true h8]; rfl
   go_enter Tryz.func66, Tryz.ntmps66
   go_wp2_with fail
   go_ret
   exact ⟨ret_bool HF.out.symm, rfl⟩
  ·have HF : Hid (isCmp k = false) := by show _ = _; rw [HP.out, decide_eq_true h4, decide_eq_false h8]; rfl
   go_enter Tryz.func66, Tryz.ntmps66
   go_wp2_with fail
   go_ret
   exact ⟨ret_bool HF.out.symm, rfl⟩
 ·have HF : Hid (isCmp k = false) := by show _ = _; rw [HP.out, decide_eq_false h4]; rfl
  go_enter Tryz.func66, Tryz.ntmps66
  go_wp2_with fail
  go_ret
  exact ⟨ret_bool HF.out.symm, rfl⟩
theorem mid_has {l : List Bs} (h2 : 2 ≤ l.length) : (l.drop 1).dropLast.contains [] = true ↔ ∃ j, 0 < j ∧ j < l.length - 1 ∧ l[j]? = some [] := by
 rw [List.contains_iff_mem, List.mem_iff_getElem?]
 constructor
 ·rintro ⟨i, hi⟩
  have hil := (List.getElem?_eq_some_iff.1 hi).1
  rw [List.length_dropLast, List.length_drop] at hil
  rw [List.getElem?_dropLast] at hi
  rw [if_pos (by rw [List.length_drop]; omega), List.getElem?_drop] at hi
  exact ⟨1 + i, by omega, by omega, hi⟩
 ·rintro ⟨j, h0, h1, hj⟩
  refine ⟨j - 1, ?_⟩
  rw [List.getElem?_dropLast, if_pos (by rw [List.length_drop]; omega), List.getElem?_drop, show 1 + (j - 1) = j by omega]
  exact hj
theorem r9_parts_any (v : Value) (l : List Bs) (w : World) (hv : StrsV w w.heap.size v l) (hl : l.length ≤ 1000000000) :
  Calls Tryz.prog 100 #[v] w fun e w' => e = .returned (.bool (partsF l)) ∧ w = w' := by
 obtain ⟨A, c, rfl, hc⟩ := SlV.shape hv
 have HP : Hid (partsF l = (decide (2 ≤ l.length) && (decide (l.length ≤ 16) && (!((l.drop 1).dropLast.contains []) && l.any fun s => !s.isEmpty)))) := rfl
 by_cases h2 : l.length < 2
 ·have HF : Hid (partsF l = false) := by show _ = _; rw [HP.out, decide_eq_false (by omega)]; rfl
  have hI : (l.length : Int) < 2 := by omega
  clear h2
  go_enter Tryz.func100, Tryz.ntmps100
  go_wp2_with fail
  go_ret
  exact ⟨ret_bool HF.out.symm, rfl⟩
 have hI : ¬ (l.length : Int) < 2 := by omega
 by_cases h16 : 16 < l.length
 ·have HF : Hid (partsF l = false) := by show _ = _; rw [HP.out, decide_eq_false (p := l.length ≤ 16) (by omega)]; simp
  have hJ : (16 : Int) < (l.length : Int) := by omega
  clear h2 h16
  go_enter Tryz.func100, Tryz.ntmps100
  go_wp2_with fail
  go_ret
  exact ⟨ret_bool HF.out.symm, rfl⟩
 have hJ : ¬ (16 : Int) < (l.length : Int) := by omega
 have HG : Hid (partsF l = (!((l.drop 1).dropLast.contains []) && l.any fun s => !s.isEmpty)) := by show _ = _; rw [HP.out, decide_eq_true (p := 2 ≤ l.length) (by omega), decide_eq_true (p := l.length ≤ 16) (by omega)]; rfl
 have HM := Lib.hid (mid_has (l := l) (by omega))
 have hw1 : IntKind.i64.wrap ((l.length : Int) - 1) = ((l.length - 1 : Nat) : Int) := by rw [IntWalk.i64_in _ (by omega)]; omega
 have h2' : 2 ≤ l.length := by omega
 clear HP h2 h16
 generalize partsF l = R at *
 go_enter Tryz.func100, Tryz.ntmps100
 go_wp2_with fail
 go_loop [3, 4] (fun o i => ∃ (k : Nat) (b : Bool), k ≤ l.length ∧ o = .bool b ∧ i = .int .i64 (k : Int) ∧ Hid (b = (l.take k).any fun s => !s.isEmpty) ∧ Hid (∀ j, 0 < j → j < l.length - 1 → j < k → l[j]? ≠ some [])) (fun _ i => l.length - (intOf i).toNat)
 case atStart => exact ⟨0, false, Nat.zero_le _, rfl, rfl, rfl, fun j _ _ h => by omega⟩
 case round =>
  obtain ⟨k, b, hk, rfl, rfl, hinv, hno⟩ := hrel
  by_cases hlt : k < l.length
  ·obtain ⟨g, off, hA, hgl, c0⟩ := StrsV.cell hv hlt
   subst hA
   have hltI : (k : Int) < (l.length : Int) := by omega
   have hem := empty_beq l[k]
   have hst : ((l.take (k + 1)).any fun s => !s.isEmpty) = (b || !l[k].isEmpty) := by
    rw [List.take_succ_eq_append_getElem hlt, List.any_append, ← hinv.out]; simp
   have HS := Lib.hid hst
   have hkk : l[k]? = some l[k] := List.getElem?_eq_getElem hlt
   cases he : l[k].isEmpty
   ·have hne : l[k] ≠ [] := fun e => by rw [e] at he; cases he
    have HN : Hid (∀ j, 0 < j → j < l.length - 1 → j < k + 1 → l[j]? ≠ some []) := fun j h0 h1 h2 => by
     by_cases hjk : j = k
     ·subst hjk; rw [hkk]; exact fun e => hne (by injection e)
     ·exact hno.out j h0 h1 (by omega)
    have HB : Hid ((l.take (k + 1)).any (fun s => !s.isEmpty) = true) := by show _ = _; rw [HS.out, he]; simp
    rw [he] at hem
    clear hinv hno hst HS he hne hkk
    cases b
    all_goals
     go_wp2_with fail
     go_round
     case rel => exact ⟨k + 1, true, by omega, rfl, by go_num, HB.out.symm, HN⟩
     case measure => simp [intOf]; omega
   ·have hnil : l[k] = [] := List.isEmpty_iff.1 he
    by_cases hmid : 0 < k ∧ k < l.length - 1
    ·have h0I : (0 : Int) < (k : Int) := by omega
     have h1I : (k : Int) < ((l.length - 1 : Nat) : Int) := by omega
     have HF : Hid (R = false) := by
      show _ = _
      rw [HG.out, HM.out.2 ⟨k, hmid.1, hmid.2, by rw [hkk, hnil]⟩]; rfl
     rw [he] at hem
     clear hinv hno hst HS he hnil hkk HG HM hmid
     go_wp2_with fail
     go_ret
     exact ⟨ret_bool HF.out.symm, rfl⟩
    ·have HN : Hid (∀ j, 0 < j → j < l.length - 1 → j < k + 1 → l[j]? ≠ some []) := fun j h0 h1 h2 => by
      by_cases hjk : j = k
      ·subst hjk; exact absurd ⟨h0, h1⟩ hmid
      ·exact hno.out j h0 h1 (by omega)
     have HB : Hid (b = (l.take (k + 1)).any (fun s => !s.isEmpty)) := by show _ = _; rw [HS.out, he]; simp
     rw [he] at hem
     clear hinv hno hst HS he hnil hkk
     by_cases h0 : 0 < k
     ·have h0I : (0 : Int) < (k : Int) := by omega
      have h1I : ¬ (k : Int) < ((l.length - 1 : Nat) : Int) := by omega
      clear hmid h0
      cases b
      all_goals
       go_wp2_with fail
       go_round
       case rel => exact ⟨k + 1, _, by omega, rfl, by go_num, HB, HN⟩
       case measure => simp [intOf]; omega
     ·have h0I : ¬ (0 : Int) < (k : Int) := by omega
      clear hmid h0
      cases b
      all_goals
       go_wp2_with fail
       go_round
       case rel => exact ⟨k + 1, _, by omega, rfl, by go_num, HB, HN⟩
       case measure => simp [intOf]; omega
  ·have hltI : ¬ (k : Int) < (l.length : Int) := by omega
   have HF : Hid (R = b) := by
    show _ = _
    have h1 := hinv.out
    rw [List.take_of_length_le (by omega)] at h1
    have h3 : (l.drop 1).dropLast.contains [] = false := by
     cases hx : (l.drop 1).dropLast.contains []
     ·rfl
     ·obtain ⟨j, h0, hj1, hj⟩ := HM.out.1 hx
      exact absurd hj (hno.out j h0 hj1 (by omega))
    rw [HG.out, h3, ← h1]; rfl
   clear hinv hno
   go_wp2_with fail
   go_ret
   exact ⟨ret_bool HF.out.symm, rfl⟩
theorem r9_print_any (s : ByteArray) (w : World) (hs : s.size ≤ 1000000000000) :
  Calls Tryz.prog 69 #[.string s] w fun e w' => e = .returned (.bool (prtF (L s))) ∧ w = w' := by
 have HC : Hid (prtF (L s) = ((L s).all Idn.printable && decide (s.size ≤ 256))) := rfl
 go_enter Tryz.func69, Tryz.ntmps69
 go_wp2
 go_loop [3] (fun i => ∃ k : Nat, k ≤ s.size ∧ i = .int .i64 k ∧ Hid ((L s).all Idn.printable = ((L s).drop k).all Idn.printable)) (fun i => s.size - (intOf i).toNat)
 case atStart => exact ⟨0, Nat.zero_le _, rfl, rfl⟩
 case round =>
  obtain ⟨k, hk, rfl, hinv⟩ := hrel
  by_cases hlt : k < s.size
  ·have hd := drop_L s k hlt
   by_cases hp : Idn.printable s[k] = true
   ·have h1 : (32 : Int) ≤ (s[k].toNat : Int) := by simp [Idn.printable] at hp; omega
    have h2 : (s[k].toNat : Int) ≤ 126 := by simp [Idn.printable] at hp; omega
    have HF : Hid ((L s).all Idn.printable = ((L s).drop (k+1)).all Idn.printable) := by show _ = _; rw [hinv.out, hd]; simp [hp]
    clear hd hp
    go_wp2
    go_round
    case rel => exact ⟨k + 1, by omega, by go_num, HF⟩
    case measure => simp [intOf]; omega
   ·have HF : Hid ((L s).all Idn.printable = false) := by show _ = _; rw [hinv.out, hd]; simp [hp]
    have hc : (s[k].toNat : Int) < 32 ∨ (¬ (s[k].toNat : Int) < 32 ∧ 126 < (s[k].toNat : Int)) := by simp [Idn.printable] at hp; omega
    clear hd hp
    rcases hc with hc | ⟨hc', hc⟩
    all_goals
     go_wp2
     go_ret
     exact ⟨ret_bool (by rw [HC.out, HF.out]; rfl), rfl⟩
  ·have HF : Hid ((L s).all Idn.printable = true) := by show _ = _; rw [hinv.out, drop_end s k hlt]; rfl
   by_cases h256 : s.size ≤ 256
   ·have hI : (s.size : Int) ≤ 256 := by omega
    have HG : Hid (decide (s.size ≤ 256) = true) := decide_eq_true h256
    clear h256
    go_wp2
    go_ret
    exact ⟨ret_bool (by rw [HC.out, HF.out, HG.out]; rfl), rfl⟩
   ·have hI : ¬ (s.size : Int) ≤ 256 := by omega
    have HG : Hid (decide (s.size ≤ 256) = false) := decide_eq_false h256
    clear h256
    go_wp2
    go_ret
    exact ⟨ret_bool (by rw [HC.out, HF.out, HG.out]; rfl), rfl⟩
end Go.Proofs.YtmamnmjfbadiiaaGreatDoor
/- identityref09: form, node, Check. -/
namespace Go.Proofs.YtmamnmjfbadiiaaGreatDoor
open Go.RowKit Go.Sort
open Idn (L B Bs drop_L take_L size_L)
theorem r9_form_any (v : Value) (f : Flt) (d : Nat) (w : World) (hv : FltV w w.heap.size d v f) (hl : f.parts.length ≤ 1000000000) :
    Calls Tryz.prog 65 #[v] w fun e w' => e = .returned (.bool (formF f.kind f.name f.value f.parts f.kids.length)) ∧ Below w.heap.size w w' := by
  obtain ⟨Ap, cp, Ak, ck, rfl, hp, hk⟩ := hv.shape
  have hP := fun W (hW : Below w.heap.size w W) => r9_parts_any _ f.parts W (SlV.mono (SlV.keep hp hW) hW.size) hl
  rw [formF_B]
  have tn := empty_beq f.name
  have tv := empty_beq f.value
  have hep : f.parts.isEmpty = decide (f.parts.length = 0) := by cases f.parts <;> simp
  generalize partsF f.parts = pp at *
  generalize f.name.isEmpty = en at *
  generalize f.value.isEmpty = ev at *
  generalize B f.name = bn at *
  generalize B f.value = bv at *
  rw [hep]
  generalize f.parts.length = np at *
  generalize f.kids.length = m at *
  generalize f.kind = k at *
  clear hp hk hep hv
  have hnp : np = 0 ∨ ((np : Int) == 0) = false ∧ np ≠ 0 := by
    by_cases h : np = 0
    · exact .inl h
    · exact .inr ⟨by rw [beq_eq_false_iff_ne]; omega, h⟩
  go_enter Tryz.func65, Tryz.ntmps65
  go_upto_region 1 with fail
  with_reducible refine gen1 (R := fun W => Code.wp Tryz.prog _ _ _ W) ?_
  intro W hbW hszW hc _
  have b0 : W.cell? ⟨w.heap.size, 0, none⟩ = some (.int .i64 k) := hc 0 _ rfl
  have b1 : W.cell? ⟨w.heap.size, 1, none⟩ = some (.string bn) := hc 1 _ rfl
  have b2 : W.cell? ⟨w.heap.size, 2, none⟩ = some (.string bv) := hc 2 _ rfl
  have b3 : W.cell? ⟨w.heap.size, 3, none⟩ = some (.slice Ap np cp) := hc 3 _ rfl
  have b4 : W.cell? ⟨w.heap.size, 4, none⟩ = some (.slice Ak m ck) := hc 4 _ rfl
  clear hc hszW
  rcases kinds k with rfl | rfl | rfl | rfl | rfl | rfl | rfl | rfl | hk9
  iterate 2
    · rcases hnp with rfl | ⟨p1, p2⟩ <;> cases en <;> cases ev <;> (go_wp2_with fail; go_ret; exact ⟨ret_bool (by simp [formB, *]), hbW⟩)
  · rcases hnp with rfl | ⟨p1, p2⟩ <;> rcases kids3 m with rfl | rfl | ⟨m1, m2, m3, m4⟩ <;> cases en <;> cases ev <;> (go_wp2_with fail; go_ret; exact ⟨ret_bool (by simp [formB, *]), hbW⟩)
  iterate 3
    · rcases hnp with rfl | ⟨p1, p2⟩ <;> rcases kids3 m with rfl | rfl | ⟨m1, m2, m3, m4⟩ <;> (go_wp2_with fail; go_ret; exact ⟨ret_bool (by simp [formB, *]), hbW⟩)
  · rcases hnp with rfl | ⟨p1, p2⟩ <;> rcases kids3 m with rfl | rfl | ⟨m1, m2, m3, m4⟩ <;> cases ev <;> (go_wp2_with fail; go_ret; exact ⟨ret_bool (by simp [formB, *]), hbW⟩)
  · rcases kids3 m with rfl | rfl | ⟨m1, m2, m3, m4⟩ <;> cases ev
    all_goals
      first
        | (go_wp2_with fail
           go_ret
           exact ⟨ret_bool (by simp [formB, *]), hbW⟩)
        | (go_wp2_with fail
           refine (hP W hbW).mono ?_
           rintro e w2 ⟨rfl, rfl⟩
           go_wp2_with fail
           go_ret
           exact ⟨ret_bool (by simp [formB]), hbW⟩)
  · have HF : Hid (∀ a b c m p, formB k a b c m p = false) := formB_other hk9
    obtain ⟨e1, e2, e3, e4, e5, e6, e7, e8⟩ := hk9
    go_wp2_with fail
    go_ret
    exact ⟨ret_bool (by rw [HF.out]), hbW⟩
theorem all_drop {p : Bs → Bool} {l : List Bs} {k : Nat} (h : k < l.length) : ((l.drop k).any p) = (p l[k] || (l.drop (k + 1)).any p) := by
 rw [List.drop_eq_getElem_cons h, List.any_cons]
theorem r9_node_any : ∀ (d : Nat) (v : Value) (f : Flt) (w : World), FltV w w.heap.size d v f → FSm 1000 f →
  Calls Tryz.prog 37 #[v] w fun e w' => e = .returned (.int .i64 (nodeErr f)) ∧ Below w.heap.size w w' := by
 intro d
 induction d using Nat.strongRecOn with
 | _ d ih =>
 intro v f w hv hs
 obtain ⟨Ap, cp, Ak, ck, rfl, hp, hk⟩ := hv.shape
 have hks := hs.kids
 have hkl := hks.len
 obtain ⟨o1, o2, o3, o4⟩ := fOk_own hs.2
 have kF := fun W (hW : Below w.heap.size w W) => r9_form_any _ f d W (hv.on hW) (by omega)
 have kC := fun W => r9_comp_any f.kind W
 have kN := fun W => r_name_any (B f.name) W (by rw [Idn.size_B]; omega)
 have kL := fun W => r_clean_any (B f.value) W (by rw [Idn.size_B]; omega)
 have kP := fun (x : Bs) (hx : x ∈ f.parts) W => r9_print_any (B x) W (by rw [Idn.size_B]; have := o4 x hx; omega)
 simp only [Idn.L_B] at kN kL kP
 have HE : Hid (nodeErr f = if ownErr f.kind f.name f.value f.parts f.kids.length != 0 then ownErr f.kind f.name f.value f.parts f.kids.length else nodeErrs f.kids) := nodeErr_unf f
 have HO : Hid (ownErr f.kind f.name f.value f.parts f.kids.length = if !formF f.kind f.name f.value f.parts f.kids.length then 4 else if isCmp f.kind then (if !Idn.name f.name then 5 else if (decide (f.kind ≤ 6) && !Idn.clean f.value) || f.parts.any fun s => !prtF s then 8 else 0) else 0) := rfl
 have HR4 : Hid ((f.parts.any fun s => !prtF s) = (f.parts.drop 0).any fun s => !prtF s) := rfl
 generalize ownErr f.kind f.name f.value f.parts f.kids.length = oe at *
 generalize formF f.kind f.name f.value f.parts f.kids.length = r1 at *
 generalize isCmp f.kind = r5 at *
 generalize Idn.name f.name = r2 at *
 generalize Idn.clean f.value = r3 at *
 generalize (f.parts.any fun s => !prtF s) = r4 at *
 generalize nodeErr f = ne at *
 clear hv o1 o2 o4
 go_enter Tryz.func37, Tryz.ntmps37
 go_upto_region 1 with fail
 with_reducible refine gen1 (R := fun W => Code.wp Tryz.prog _ _ _ W) ?_
 intro W hbW hszW hc _
 have b0 : W.cell? ⟨w.heap.size, 0, none⟩ = some (.int .i64 f.kind) := hc 0 _ rfl
 have b1 : W.cell? ⟨w.heap.size, 1, none⟩ = some (.string (B f.name)) := hc 1 _ rfl
 have b2 : W.cell? ⟨w.heap.size, 2, none⟩ = some (.string (B f.value)) := hc 2 _ rfl
 have b3 : W.cell? ⟨w.heap.size, 3, none⟩ = some (.slice Ap f.parts.length cp) := hc 3 _ rfl
 have b4 : W.cell? ⟨w.heap.size, 4, none⟩ = some (.slice Ak f.kids.length ck) := hc 4 _ rfl
 clear hc hszW
 go_wp2_with fail
 refine (kF W hbW).mono ?_
 rintro e w1 ⟨rfl, hb1⟩
 replace b0 := cell_later hb1 b0
 replace b1 := cell_later hb1 b1
 replace b2 := cell_later hb1 b2
 replace b3 := cell_later hb1 b3
 replace b4 := cell_later hb1 b4
 have hbX := hbW.trans (hb1.mono hbW.size)
 clear hb1 hbW kF
 cases r1
 ·have HF : Hid (ne = 4) := by show _ = _; rw [HE.out, HO.out]; rfl
  clear HE HO HR4 kC kN kL kP ih hk hp
  go_wp2_with fail
  go_ret
  exact ⟨ret_int HF.out.symm, hbX⟩
 cases r5
 ·have HF : Hid (ne = nodeErrs (f.kids.drop 0)) := by show _ = _; rw [HE.out, HO.out]; rfl
  clear HE HO HR4 kN kL kP hp
  go_wp2_with fail
  refine (kC w1).mono ?_
  rintro e wd ⟨rfl, rfl⟩
  clear kC
  clear b0 b1 b2 b3
  go_wp2_with fail
  go_loopw [4] (fun i wr => ∃ k : Nat, k ≤ f.kids.length ∧ i = .int .i64 (k : Int) ∧ Below w1.heap.size w1 wr ∧ Hid (ne = nodeErrs (f.kids.drop k))) (fun i _ => f.kids.length - (intOf i).toNat)
  case atStart => exact ⟨0, Nat.zero_le _, rfl, Below.refl _ _, HF⟩
  case round =>
   obtain ⟨k, hk9, rfl, hbr, hinv⟩ := hrel
   have hb := hbX.trans (hbr.mono hbX.size)
   replace b4 := cell_later hbr b4
   by_cases hlt : k < f.kids.length
   ·obtain ⟨g, off, Ap', cp', Ak', ck', hA, hg, c0, c1, c2, c3, c4, hd, hkid⟩ := FltsV.kid2 (FltsV.keep hk hb) hlt
    subst hA
    have hltI : (k : Int) < (f.kids.length : Int) := by omega
    have HT := Lib.hid (nodeErrs_step hlt)
    have hcall := ih (d - 1) (by omega) _ f.kids[k] wr (FltV.mono hkid hb.size) (hks.mem (List.getElem_mem hlt))
    clear hkid ih hk
    generalize nodeErr f.kids[k] = q at *
    by_cases hq : q = 0
    ·have hI : (q != 0) = false := by simpa using hq
     have HV : Hid (ne = nodeErrs (f.kids.drop (k + 1))) := by show _ = _; rw [hinv.out, HT.out, hI]; rfl
     clear hinv HT hq
     go_wp2_with fail
     refine hcall.mono ?_
     rintro e w6 ⟨rfl, hb6⟩
     clear hcall c0 c1 c2 c3 c4
     go_wp2_with fail
     go_roundw
     case rel => exact ⟨k + 1, by omega, by go_num, hbr.trans (hb6.mono hbr.size), HV⟩
     case measure => simp [intOf]; omega
    ·have hI : (q != 0) = true := by simpa using hq
     have HV : Hid (ne = q) := by show _ = _; rw [hinv.out, HT.out, hI]; rfl
     clear hinv HT hq
     go_wp2_with fail
     refine hcall.mono ?_
     rintro e w6 ⟨rfl, hb6⟩
     clear hcall c0 c1 c2 c3 c4
     go_wp2_with fail
     go_ret
     exact ⟨ret_int HV.out.symm, hb.trans (hb6.mono hb.size)⟩
   ·have hltI : ¬ (k : Int) < (f.kids.length : Int) := by omega
    have HV : Hid (ne = 0) := by show _ = _; rw [hinv.out, List.drop_eq_nil_of_le (by omega)]; rfl
    clear hinv ih hk
    go_wp2_with fail
    go_ret
    exact ⟨ret_int HV.out.symm, hb⟩
 cases r2
 ·have HF : Hid (ne = 5) := by show _ = _; rw [HE.out, HO.out]; rfl
  clear HE HO HR4 kL kP ih hk hp
  go_wp2_with fail
  refine (kC w1).mono ?_
  rintro e wd ⟨rfl, rfl⟩
  clear kC
  go_wp2_with fail
  refine (kN w1).mono ?_
  rintro e wd ⟨rfl, rfl⟩
  clear kN
  go_wp2_with fail
  go_ret
  exact ⟨ret_int HF.out.symm, hbX⟩
 by_cases h6 : f.kind ≤ 6
 ·have HD := Lib.hid (decide_eq_true h6)
  cases r3
  ·have HF : Hid (ne = 8) := by show _ = _; rw [HE.out, HO.out, HD.out]; rfl
   clear HE HO HD HR4 kP ih hk hp
   go_wp2_with fail
   refine (kC w1).mono ?_
   rintro e wd ⟨rfl, rfl⟩
   clear kC
   go_wp2_with fail
   refine (kN w1).mono ?_
   rintro e wd ⟨rfl, rfl⟩
   clear kN
   go_wp2_with fail
   refine (kL w1).mono ?_
   rintro e wd ⟨rfl, rfl⟩
   clear kL
   go_wp2_with fail
   go_ret
   exact ⟨ret_int HF.out.symm, hbX⟩
  have HE8 : Hid (r4 = true → ne = 8) := fun h => by rw [HE.out, HO.out, HD.out, h]; rfl
  have HE0 : Hid (r4 = false → ne = nodeErrs f.kids) := fun h => by rw [HE.out, HO.out, HD.out, h]; rfl
  clear HE HO HD
  go_wp2_with fail
  refine (kC w1).mono ?_
  rintro e wd ⟨rfl, rfl⟩
  clear kC
  go_wp2_with fail
  refine (kN w1).mono ?_
  rintro e wd ⟨rfl, rfl⟩
  clear kN
  go_wp2_with fail
  refine (kL w1).mono ?_
  rintro e wd ⟨rfl, rfl⟩
  clear kL
  have hps := SlV.keep hp hbX
  go_wp2_with fail
  go_loop [3] (fun i => ∃ j : Nat, j ≤ f.parts.length ∧ i = .int .i64 (j : Int) ∧ Hid (r4 = (f.parts.drop j).any fun s => !prtF s)) (fun i => f.parts.length - (intOf i).toNat)
  case atStart => exact ⟨0, Nat.zero_le _, rfl, HR4.out⟩
  case round =>
   obtain ⟨j, hj9, rfl, hpi⟩ := hrel
   by_cases hjl : j < f.parts.length
   ·obtain ⟨g, off, hA, hgl, c0⟩ := StrsV.cell hps hjl
    subst hA
    have hjI : (j : Int) < (f.parts.length : Int) := by omega
    have hPr := kP f.parts[j] (List.getElem_mem hjl) w1
    have hst := all_drop (p := fun s => !prtF s) hjl
    have HS := Lib.hid hst
    generalize prtF f.parts[j] = pj at *
    clear hst
    cases pj
    ·have HF : Hid (ne = 8) := by show _ = _; rw [HE8.out (by rw [hpi.out, HS.out]; rfl)]
     clear hpi HS ih hk hps hp kP
     go_wp2_with fail
     refine hPr.mono ?_
     rintro e wd ⟨rfl, rfl⟩
     go_wp2_with fail
     go_ret
     exact ⟨ret_int HF.out.symm, hbX⟩
    ·have HV : Hid (r4 = (f.parts.drop (j + 1)).any fun s => !prtF s) := by show _ = _; rw [hpi.out, HS.out]; rfl
     clear hpi HS
     go_wp2_with fail
     refine hPr.mono ?_
     rintro e wd ⟨rfl, rfl⟩
     clear hPr
     go_wp2_with fail
     go_round
     case rel => exact ⟨j + 1, by omega, by go_num, HV⟩
     case measure => simp [intOf]; omega
   ·have hjI : ¬ (j : Int) < (f.parts.length : Int) := by omega
    have HF : Hid (ne = nodeErrs (f.kids.drop 0)) := by
     show _ = _
     rw [HE0.out (by rw [hpi.out, List.drop_eq_nil_of_le (by omega)]; rfl)]; rfl
    clear hpi hps hp kP HE0 HE8 HR4
    go_wp2_with fail
    clear b0 b1 b2 b3
    go_loopw [4] (fun i wr => ∃ k : Nat, k ≤ f.kids.length ∧ i = .int .i64 (k : Int) ∧ Below w1.heap.size w1 wr ∧ Hid (ne = nodeErrs (f.kids.drop k))) (fun i _ => f.kids.length - (intOf i).toNat)
    case atStart => exact ⟨0, Nat.zero_le _, rfl, Below.refl _ _, HF⟩
    case round =>
     obtain ⟨k, hk9, rfl, hbr, hinv⟩ := hrel
     have hb := hbX.trans (hbr.mono hbX.size)
     replace b4 := cell_later hbr b4
     by_cases hlt : k < f.kids.length
     ·obtain ⟨g, off, Ap', cp', Ak', ck', hA, hg, c0, c1, c2, c3, c4, hd, hkid⟩ := FltsV.kid2 (FltsV.keep hk hb) hlt
      subst hA
      have hltI : (k : Int) < (f.kids.length : Int) := by omega
      have HT := Lib.hid (nodeErrs_step hlt)
      have hcall := ih (d - 1) (by omega) _ f.kids[k] wr (FltV.mono hkid hb.size) (hks.mem (List.getElem_mem hlt))
      clear hkid ih hk
      generalize nodeErr f.kids[k] = q at *
      by_cases hq : q = 0
      ·have hI : (q != 0) = false := by simpa using hq
       have HV : Hid (ne = nodeErrs (f.kids.drop (k + 1))) := by show _ = _; rw [hinv.out, HT.out, hI]; rfl
       clear hinv HT hq
       go_wp2_with fail
       refine hcall.mono ?_
       rintro e w6 ⟨rfl, hb6⟩
       clear hcall c0 c1 c2 c3 c4
       go_wp2_with fail
       go_roundw
       case rel => exact ⟨k + 1, by omega, by go_num, hbr.trans (hb6.mono hbr.size), HV⟩
       case measure => simp [intOf]; omega
      ·have hI : (q != 0) = true := by simpa using hq
       have HV : Hid (ne = q) := by show _ = _; rw [hinv.out, HT.out, hI]; rfl
       clear hinv HT hq
       go_wp2_with fail
       refine hcall.mono ?_
       rintro e w6 ⟨rfl, hb6⟩
       clear hcall c0 c1 c2 c3 c4
       go_wp2_with fail
       go_ret
       exact ⟨ret_int HV.out.symm, hb.trans (hb6.mono hb.size)⟩
     ·have hltI : ¬ (k : Int) < (f.kids.length : Int) := by omega
      have HV : Hid (ne = 0) := by show _ = _; rw [hinv.out, List.drop_eq_nil_of_le (by omega)]; rfl
      clear hinv ih hk
      go_wp2_with fail
      go_ret
      exact ⟨ret_int HV.out.symm, hb⟩
 have HD := Lib.hid (decide_eq_false h6)
 have HE8 : Hid (r4 = true → ne = 8) := fun h => by rw [HE.out, HO.out, HD.out, h]; rfl
 have HE0 : Hid (r4 = false → ne = nodeErrs f.kids) := fun h => by rw [HE.out, HO.out, HD.out, h]; rfl
 clear HE HO HD kL
 go_wp2_with fail
 refine (kC w1).mono ?_
 rintro e wd ⟨rfl, rfl⟩
 clear kC
 go_wp2_with fail
 refine (kN w1).mono ?_
 rintro e wd ⟨rfl, rfl⟩
 clear kN
 have hps := SlV.keep hp hbX
 go_wp2_with fail
 go_loop [3] (fun i => ∃ j : Nat, j ≤ f.parts.length ∧ i = .int .i64 (j : Int) ∧ Hid (r4 = (f.parts.drop j).any fun s => !prtF s)) (fun i => f.parts.length - (intOf i).toNat)
 case atStart => exact ⟨0, Nat.zero_le _, rfl, HR4.out⟩
 case round =>
  obtain ⟨j, hj9, rfl, hpi⟩ := hrel
  by_cases hjl : j < f.parts.length
  ·obtain ⟨g, off, hA, hgl, c0⟩ := StrsV.cell hps hjl
   subst hA
   have hjI : (j : Int) < (f.parts.length : Int) := by omega
   have hPr := kP f.parts[j] (List.getElem_mem hjl) w1
   have hst := all_drop (p := fun s => !prtF s) hjl
   have HS := Lib.hid hst
   generalize prtF f.parts[j] = pj at *
   clear hst
   cases pj
   ·have HF : Hid (ne = 8) := by show _ = _; rw [HE8.out (by rw [hpi.out, HS.out]; rfl)]
    clear hpi HS ih hk hps hp kP
    go_wp2_with fail
    refine hPr.mono ?_
    rintro e wd ⟨rfl, rfl⟩
    go_wp2_with fail
    go_ret
    exact ⟨ret_int HF.out.symm, hbX⟩
   ·have HV : Hid (r4 = (f.parts.drop (j + 1)).any fun s => !prtF s) := by show _ = _; rw [hpi.out, HS.out]; rfl
    clear hpi HS
    go_wp2_with fail
    refine hPr.mono ?_
    rintro e wd ⟨rfl, rfl⟩
    clear hPr
    go_wp2_with fail
    go_round
    case rel => exact ⟨j + 1, by omega, by go_num, HV⟩
    case measure => simp [intOf]; omega
  ·have hjI : ¬ (j : Int) < (f.parts.length : Int) := by omega
   have HF : Hid (ne = nodeErrs (f.kids.drop 0)) := by
    show _ = _
    rw [HE0.out (by rw [hpi.out, List.drop_eq_nil_of_le (by omega)]; rfl)]; rfl
   clear hpi hps hp kP HE0 HE8 HR4
   go_wp2_with fail
   clear b0 b1 b2 b3
   go_loopw [4] (fun i wr => ∃ k : Nat, k ≤ f.kids.length ∧ i = .int .i64 (k : Int) ∧ Below w1.heap.size w1 wr ∧ Hid (ne = nodeErrs (f.kids.drop k))) (fun i _ => f.kids.length - (intOf i).toNat)
   case atStart => exact ⟨0, Nat.zero_le _, rfl, Below.refl _ _, HF⟩
   case round =>
    obtain ⟨k, hk9, rfl, hbr, hinv⟩ := hrel
    have hb := hbX.trans (hbr.mono hbX.size)
    replace b4 := cell_later hbr b4
    by_cases hlt : k < f.kids.length
    ·obtain ⟨g, off, Ap', cp', Ak', ck', hA, hg, c0, c1, c2, c3, c4, hd, hkid⟩ := FltsV.kid2 (FltsV.keep hk hb) hlt
     subst hA
     have hltI : (k : Int) < (f.kids.length : Int) := by omega
     have HT := Lib.hid (nodeErrs_step hlt)
     have hcall := ih (d - 1) (by omega) _ f.kids[k] wr (FltV.mono hkid hb.size) (hks.mem (List.getElem_mem hlt))
     clear hkid ih hk
     generalize nodeErr f.kids[k] = q at *
     by_cases hq : q = 0
     ·have hI : (q != 0) = false := by simpa using hq
      have HV : Hid (ne = nodeErrs (f.kids.drop (k + 1))) := by show _ = _; rw [hinv.out, HT.out, hI]; rfl
      clear hinv HT hq
      go_wp2_with fail
      refine hcall.mono ?_
      rintro e w6 ⟨rfl, hb6⟩
      clear hcall c0 c1 c2 c3 c4
      go_wp2_with fail
      go_roundw
      case rel => exact ⟨k + 1, by omega, by go_num, hbr.trans (hb6.mono hbr.size), HV⟩
      case measure => simp [intOf]; omega
     ·have hI : (q != 0) = true := by simpa using hq
      have HV : Hid (ne = q) := by show _ = _; rw [hinv.out, HT.out, hI]; rfl
      clear hinv HT hq
      go_wp2_with fail
      refine hcall.mono ?_
      rintro e w6 ⟨rfl, hb6⟩
      clear hcall c0 c1 c2 c3 c4
      go_wp2_with fail
      go_ret
      exact ⟨ret_int HV.out.symm, hb.trans (hb6.mono hb.size)⟩
    ·have hltI : ¬ (k : Int) < (f.kids.length : Int) := by omega
     have HV : Hid (ne = 0) := by show _ = _; rw [hinv.out, List.drop_eq_nil_of_le (by omega)]; rfl
     clear hinv ih hk
     go_wp2_with fail
     go_ret
     exact ⟨ret_int HV.out.symm, hb⟩
theorem r9_Check_any (d : Nat) (v : Value) (f : Flt) (w : World) (hv : FltV w w.heap.size d v f) (hs : FSm 1000 f) :
  Calls Tryz.prog 13 #[v] w fun e w' => e = .returned (.int .i64 (fCheck f)) ∧ Below w.heap.size w w' := by
 obtain ⟨Ap, cp, Ak, ck, rfl, hp, hk⟩ := hv.shape
 have k1 := fun W (hW : Below w.heap.size w W) => r9_Nodes_any d _ f W (hv.on hW) hs
 have k2 := fun W (hW : Below w.heap.size w W) => r9_level_any d _ f W (hv.on hW) hs
 have k3 := fun W (hW : Below w.heap.size w W) => r9_node_any d _ f W (hv.on hW) hs
 have HC : Hid (fCheck f = if 64 < fSize f ∨ 8 < fDep f then 3 else nodeErr f) := rfl
 obtain ⟨q, hq⟩ : ∃ q : Nat, q = min (fSize f) 65 := ⟨_, rfl⟩
 rw [← hq] at k1
 have h64 : 64 < q ↔ 64 < fSize f := by omega
 generalize fCheck f = R at *
 generalize fDep f = dp at *
 generalize nodeErr f = ne at *
 clear hp hk hv
 go_enter Tryz.func13, Tryz.ntmps13
 go_upto_region 1 with fail
 with_reducible refine gen1 (R := fun W => Code.wp Tryz.prog _ _ _ W) ?_
 intro W hbW hszW hc _
 have b0 : W.cell? ⟨w.heap.size, 0, none⟩ = some (.int .i64 f.kind) := hc 0 _ rfl
 have b1 : W.cell? ⟨w.heap.size, 1, none⟩ = some (.string (B f.name)) := hc 1 _ rfl
 have b2 : W.cell? ⟨w.heap.size, 2, none⟩ = some (.string (B f.value)) := hc 2 _ rfl
 have b3 : W.cell? ⟨w.heap.size, 3, none⟩ = some (.slice Ap f.parts.length cp) := hc 3 _ rfl
 have b4 : W.cell? ⟨w.heap.size, 4, none⟩ = some (.slice Ak f.kids.length ck) := hc 4 _ rfl
 clear hc hszW
 go_wp2_with fail
 refine (k1 W hbW).mono ?_
 rintro e w1 ⟨rfl, hb1⟩
 replace b0 := cell_later hb1 b0
 replace b1 := cell_later hb1 b1
 replace b2 := cell_later hb1 b2
 replace b3 := cell_later hb1 b3
 replace b4 := cell_later hb1 b4
 have hbw1 := hbW.trans (hb1.mono hbW.size)
 clear k1 hb1 hbW
 by_cases hq6 : 64 < q
 ·have hI : (64 : Int) < (q : Int) := by omega
  have HF : Hid (R = 3) := by show _ = _; rw [HC.out, if_pos (.inl (h64.1 hq6))]
  clear HC hq h64 hq6 k2 k3
  go_wp2_with fail
  go_ret
  exact ⟨ret_int HF.out.symm, hbw1⟩
 have hI : ¬ (64 : Int) < (q : Int) := by omega
 have HF0 : Hid (R = if 8 < dp then 3 else ne) := by
  show _ = _; rw [HC.out]
  by_cases h8 : 8 < dp
  ·rw [if_pos (.inr h8), if_pos h8]
  ·rw [if_neg (fun h => h.elim (fun h => hq6 (h64.2 h)) h8), if_neg h8]
 clear HC hq h64 hq6
 go_wp2_with fail
 refine (k2 w1 hbw1).mono ?_
 rintro e w2 ⟨rfl, hb2⟩
 replace b0 := cell_later hb2 b0
 replace b1 := cell_later hb2 b1
 replace b2 := cell_later hb2 b2
 replace b3 := cell_later hb2 b3
 replace b4 := cell_later hb2 b4
 have hbw2 := hbw1.trans (hb2.mono hbw1.size)
 clear k2 hb2 hbw1
 by_cases h8 : 8 < dp
 ·have hJ : (8 : Int) < (dp : Int) := by omega
  have HF : Hid (R = 3) := by show _ = _; rw [HF0.out, if_pos h8]
  clear HF0 h8 k3
  go_wp2_with fail
  go_ret
  exact ⟨ret_int HF.out.symm, hbw2⟩
 ·have hJ : ¬ (8 : Int) < (dp : Int) := by omega
  have HF : Hid (R = ne) := by show _ = _; rw [HF0.out, if_neg h8]
  clear HF0 h8
  go_wp2_with fail
  refine (k3 w2 hbw2).mono ?_
  rintro e w3 ⟨rfl, hb3⟩
  go_wp2_with fail
  go_ret
  exact ⟨ret_int HF.out.symm, hbw2.trans (hb3.mono hbw2.size)⟩
end Go.Proofs.YtmamnmjfbadiiaaGreatDoor
