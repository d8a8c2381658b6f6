/- Part 45 of the proof that the statements of identitylaw09 on matching hold at all arguments: the package variables hold what the program lays; nothing else is asked. -/
import Derived.Test.YtmamnmjfbadiiaaGreatDoorFz40
set_option linter.unusedVariables false
set_option linter.unusedSimpArgs false
set_option maxRecDepth 100000
set_option maxHeartbeats 16000000
/- identityref09: exact. -/
namespace Go.Proofs.YtmamnmjfbadiiaaGreatDoor
open Go.RowKit Go.Sort
open Idn (L B Bs drop_L take_L size_L)
theorem pre_iff {p u : Bs} : p.isPrefixOf u = true ↔ u.take p.length = p := by
 rw [List.isPrefixOf_iff_prefix, List.prefix_iff_eq_take]; exact eq_comm
theorem suf_iff {p u : Bs} : p.isSuffixOf u = true ↔ (u.drop (u.length - p.length)).take p.length = p := by
 rw [List.isSuffixOf_iff_suffix, List.suffix_iff_eq_drop, List.take_of_length_le (by rw [List.length_drop]; omega)]; exact eq_comm
theorem fnd_pre {p u : Bs} (h : u.take p.length = p) : fnd p u = some (u.drop p.length) := by
  cases u with
  | nil =>
    have : p = [] := by rw [← h]; simp
    subst this
    rfl
  | cons c l => rw [fnd, if_pos (pre_iff.2 h)]
theorem fnd_not {p u : Bs} (h : ¬ u.take p.length = p) : fnd p u = fnd p (u.drop 1) := by
 cases u with
 | nil => rfl
 | cons c l => rw [fnd, if_neg (fun h' => h (pre_iff.1 h'))]; rfl
theorem fnd_short {p u : Bs} (h : u.length < p.length) : fnd p u = none := by
  cases hf : fnd p u with
  | none => rfl
  | some r =>
    obtain ⟨a, h1, h2⟩ := fnd_suf hf
    have := congrArg List.length h1
    rw [List.length_append] at this
    omega
theorem take_ne {p u : Bs} (h : u.length < p.length) : ¬ u.take p.length = p := fun e => by
 have := congrArg List.length e
 rw [List.length_take] at this
 omega
def exR : List Bs → Bs → Bool
  | [], _ => true
  | [e], r => e.isSuffixOf r
  | p :: q :: l, r => match fnd p r with
    | none => false
    | some r' => exR (q :: l) r'
theorem exR_snoc (e : Bs) : ∀ (ms : List Bs) (r : Bs), exR (ms ++ [e]) r = match fnds ms r with
    | none => false
    | some r' => e.isSuffixOf r'
  | [], r => rfl
  | p :: ms, r => by
    have h : ∃ q l, ms ++ [e] = q :: l := by
      cases ms with
      | nil => exact ⟨_, _, rfl⟩
      | cons q l => exact ⟨_, _, rfl⟩
    obtain ⟨q, l, h⟩ := h
    rw [List.cons_append, h, exR, ← h, fnds]
    cases fnd p r with
    | none => rfl
    | some r' => exact exR_snoc e ms r'
theorem drop_last9 {l : List Bs} (h2 : 2 ≤ l.length) : (l.drop 1).dropLast ++ [l.getLastD []] = l.drop 1 := by
 rw [lastD_get (by omega)]
 have hne : l.drop 1 ≠ [] := fun e => by
  have := congrArg List.length e
  rw [List.length_drop, List.length_nil] at this
  omega
 have h := List.dropLast_concat_getLast hne
 rw [List.getLast_drop, List.getLast_eq_getElem] at h
 exact h
theorem exact_law {x : Bs} {l : List Bs} (h2 : 2 ≤ l.length) : exactF x l = match cutP (l.headD []) x with
    | none => false
    | some r => exR (l.drop 1) r := by
  unfold exactF
  cases cutP (l.headD []) x with
  | none => rfl
  | some r =>
    show ((cutS (l.getLastD []) r).bind fun r => fnds (l.drop 1).dropLast r).isSome = exR (l.drop 1) r
    have h := exR_snoc (l.getLastD []) (l.drop 1).dropLast r
    rw [drop_last9 h2] at h
    rw [ends_law, h]
    cases fnds (l.drop 1).dropLast r <;> rfl
def stE (l : List Bs) (i : Nat) (r : Bs) : Bool := if i = 0 then (match cutP (l.headD []) r with
  | none => false
  | some r' => exR (l.drop 1) r') else exR (l.drop i) r
theorem drop_get {l : List Bs} {i : Nat} {p : Bs} (h : l[i]? = some p) : l.drop i = p :: l.drop (i + 1) := by
 obtain ⟨hi, rfl⟩ := List.getElem?_eq_some_iff.1 h
 exact List.drop_eq_getElem_cons hi
theorem stE_mid {l : List Bs} {i : Nat} {p r : Bs} (hp : l[i]? = some p) (h0 : 0 < i) (h1 : i + 1 < l.length) : stE l i r = match fnd p r with
    | none => false
    | some r' => stE l (i + 1) r' := by
  unfold stE
  rw [if_neg (by omega), drop_get hp]
  have h : ∃ q t, l.drop (i + 1) = q :: t := ⟨_, _, List.drop_eq_getElem_cons h1⟩
  obtain ⟨q, t, h⟩ := h
  rw [h, exR]
  cases fnd p r with
  | none => rfl
  | some r' =>
    show _ = if i + 1 = 0 then _ else exR (q :: t) r'
    rw [if_neg (by omega)]
theorem stE_end {l : List Bs} {i : Nat} (h : l.length ≤ i) (h0 : 0 < i) (r : Bs) : stE l i r = true := by
 unfold stE
 rw [if_neg (by omega), List.drop_eq_nil_of_le h]; rfl
def exP (l : List Bs) (i : Nat) (p r : Bs) (res : Bool) (k : Nat) : Prop := if (r.drop k).take p.length = p then res = stE l (i + 1) (r.drop (k + p.length)) else res = false
theorem exP_zero {l : List Bs} {p r : Bs} {res : Bool} (hp : l[0]? = some p) (h : res = stE l 0 r) : exP l 0 p r res 0 := by
 have hh : l.headD [] = p := by rw [headD_get (List.getElem?_eq_some_iff.1 hp).1]; exact (List.getElem?_eq_some_iff.1 hp).2
 unfold exP
 rw [List.drop_zero, show 0 + p.length = p.length from Nat.zero_add _]
 unfold stE at h
 rw [if_pos rfl, hh] at h
 unfold cutP at h
 by_cases hm : r.take p.length = p
 ·rw [if_pos hm]
  rw [if_pos (pre_iff.2 hm)] at h
  unfold stE
  rw [if_neg (by omega)]; exact h
 ·rw [if_neg hm]
  rw [if_neg (fun h' => hm (pre_iff.1 h'))] at h
  exact h
theorem exP_last {l : List Bs} {i : Nat} {p r : Bs} {res : Bool} (hp : l[i]? = some p) (h0 : 0 < i) (h1 : i + 1 = l.length) (h : res = stE l i r) : exP l i p r res (r.length - p.length) := by
 unfold exP
 rw [stE_end (by omega) (by omega)]
 unfold stE at h
 rw [if_neg (by omega), drop_get hp, List.drop_eq_nil_of_le (by omega)] at h
 replace h : res = p.isSuffixOf r := h
 by_cases hm : (r.drop (r.length - p.length)).take p.length = p
 ·rw [if_pos hm, h]; exact suf_iff.2 hm
 ·rw [if_neg hm, h]; exact Bool.eq_false_iff.2 fun h' => hm (suf_iff.1 h')
theorem exP_in {l : List Bs} {i k : Nat} {p r : Bs} {res : Bool} (hp : l[i]? = some p) (h0 : 0 < i) (h1 : i + 1 < l.length) (h : res = stE l i r) (hf : fnd p r = fnd p (r.drop k)) (hm : (r.drop k).take p.length = p) : exP l i p r res k := by
 unfold exP
 rw [if_pos hm, h, stE_mid hp h0 h1, hf, fnd_pre hm, List.drop_drop]
theorem exP_out {l : List Bs} {i k : Nat} {p r : Bs} {res : Bool} (hp : l[i]? = some p) (h0 : 0 < i) (h1 : i + 1 < l.length) (h : res = stE l i r) (hf : fnd p r = fnd p (r.drop k)) (hk : r.length ≤ k + p.length) : exP l i p r res k := by
 by_cases hm : (r.drop k).take p.length = p
 ·exact exP_in hp h0 h1 h hf hm
 ·have hp0 : p.length ≠ 0 := fun e => hm (by rw [e, List.take_zero]; exact (List.eq_nil_of_length_eq_zero e).symm)
  unfold exP
  rw [if_neg hm, h, stE_mid hp h0 h1, hf, fnd_not hm, fnd_short (by rw [List.length_drop, List.length_drop]; omega)]
theorem exP_yes {l : List Bs} {i k : Nat} {p r : Bs} {res : Bool} (h : exP l i p r res k) (hm : (r.drop k).take p.length = p) : res = stE l (i + 1) (r.drop (k + p.length)) := by
 unfold exP at h
 rwa [if_pos hm] at h
theorem exP_no {l : List Bs} {i k : Nat} {p r : Bs} {res : Bool} (h : exP l i p r res k) (hm : ¬ (r.drop k).take p.length = p) : res = false := by
 unfold exP at h
 rwa [if_neg hm] at h
theorem fnd_next {p r : Bs} {k : Nat} (hf : fnd p r = fnd p (r.drop k)) (hm : ¬ (r.drop k).take p.length = p) : fnd p r = fnd p (r.drop (k + 1)) := by
 rw [hf, fnd_not hm, List.drop_drop]
theorem sub_beq (s pb : ByteArray) (k m : Nat) (hm : m = k + pb.size) : ((s.extract k m).toList == pb.toList) = decide (((L s).drop k).take (L pb).length = L pb) := by
 rw [hm, extract_B, Nat.add_sub_cancel_left, size_L]
 have := B_beq (((L s).drop k).take (L pb).length) (L pb)
 rwa [Idn.B_L] at this
theorem r9_exact_any (x : ByteArray) (v : Value) (l : List Bs) (w : World) (hv : StrsV w w.heap.size v l) (h2 : 2 ≤ l.length) (hl : l.length ≤ 100000) (hx : x.size ≤ 1000000000) (hll : ∀ y ∈ l, y.length ≤ 1000000000) :
  Calls Tryz.prog 124 #[.string x, v] w fun e w' => e = .returned (.bool (exactF (L x) l)) ∧ Below w.heap.size w w' := by
 obtain ⟨A, c, rfl, hc⟩ := SlV.shape hv
 have HR : Hid (exactF (L x) l = stE l 0 (L x)) := exact_law h2
 have hw1 : IntKind.i64.wrap ((l.length : Int) - 1) = ((l.length - 1 : Nat) : Int) := by rw [IntWalk.i64_in _ (by omega)]; omega
 generalize exactF (L x) l = res at *
 go_enter Tryz.func124, Tryz.ntmps124
 go_wp2_with fail
 go_loopw [5, 6] (fun t i wr => ∃ (k : Nat) (s : ByteArray), k ≤ l.length ∧ i = .int .i64 k ∧ t = .string s ∧ s.size ≤ x.size ∧ Below w.heap.size w wr ∧ Hid (res = stE l k (L s))) (fun _ i _ => l.length - (intOf i).toNat)
 case atStart => exact ⟨0, x, Nat.zero_le _, rfl, rfl, Nat.le_refl _, Below.refl _ _, HR⟩
 case round =>
  clear HR
  obtain ⟨i, s, hi9, rfl, rfl, hsx, hb, hinv⟩ := hrel
  obtain ⟨wo, hwo⟩ : ∃ wo : World, wo = wr := ⟨_, rfl⟩
  subst hwo
  by_cases hlt : i < l.length
  case neg =>
   have hltI : ¬ (i : Int) < (l.length : Int) := by omega
   have HF : Hid (res = true) := by show _ = _; rw [hinv.out, stE_end (by omega) (by omega)]
   clear hinv
   go_wp2_with fail
   go_ret
   exact ⟨ret_bool HF.out.symm, hb⟩
  obtain ⟨b, off, hA, hbl, c0⟩ := StrsV.cell (SlV.keep hv hb) hlt
  subst hA
  have hltI : (i : Int) < (l.length : Int) := by omega
  have hgp : l[i]? = some l[i] := List.getElem?_eq_getElem hlt
  have hp9 := hll l[i] (List.getElem_mem hlt)
  obtain ⟨pb, hpb⟩ : ∃ pb : ByteArray, pb = B l[i] := ⟨_, rfl⟩
  have hLp : L pb = l[i] := by rw [hpb, Idn.L_B]
  rw [← hpb] at c0
  rw [← hLp] at hgp hp9
  clear hpb hLp
  have HSP := Lib.hid (size_L pb)
  have HSS := Lib.hid (size_L s)
  replace hp9 : pb.size ≤ 1000000000 := by have := HSP.out; omega
  have hbw := hb.size
  by_cases hlast : i + 1 = l.length
  case pos =>
   have h0N : 0 < i := by omega
   have hI : ((i : Int) == ((l.length - 1 : Nat) : Int)) = true := by rw [beq_iff_eq]; omega
   have hJ : ¬ i < l.length - 1 := by omega
   have HP : Hid (exP l i (L pb) (L s) res ((L s).length - (L pb).length)) := exP_last hgp (by omega) hlast hinv.out
   rw [← HSP.out, ← HSS.out] at HP
   clear hinv
   by_cases hgt : pb.size < s.size
   ·have hgI : (pb.size : Int) < (s.size : Int) := by omega
    have hw3 : IntKind.i64.wrap ((s.size : Int) - (pb.size : Int)) = ((s.size - pb.size : Nat) : Int) := by rw [IntWalk.i64_in _ (by omega)]; omega
    go_upto_block 2 with fail
    go_cut [7] (fun t wx => ∃ k : Nat, t = .int .i64 k ∧ k ≤ s.size ∧ Below wo.heap.size wo wx ∧ Hid (exP l i (L pb) (L s) res k))
    case first =>
     clear hgI
     go_wp2_with fail
     go_loopw [7] (fun t wx => t = .int .i64 ((s.size - pb.size : Nat) : Int) ∧ Below wo.heap.size wo wx) (fun _ _ => 0)
     case atStart => exact ⟨rfl, Below.refl _ _⟩
     case round =>
      obtain ⟨rfl, hbj⟩ := hrel
      obtain ⟨wx, hwx⟩ : ∃ wx : World, wx = wr := ⟨_, rfl⟩
      subst hwx
      try go_wp2_with fail
      refine wp_region_quiet_below (by kernel_rfl) (by kernel_rfl) ?_
      repeat (first | go_big_quiet_step ((fail)) | quiet_step ((fail)))
      refine wpQuiet_nil ?_
      intro _ hw'
      obtain ⟨⟨dq, osq⟩, hw''⟩ := hw'
      subst hw''
      have hb4 := below_regrown wx dq osq
      generalize grow (redrawn wx dq) osq = W4 at hb4 ⊢
      go_wp2_with fail
      go_meet
      exact ⟨s.size - pb.size, rfl, by omega, hbj.trans (hb4.mono hbj.size), HP⟩
    case rest =>
     obtain ⟨k, rfl, hks, hbc, hpost⟩ := hcut
     obtain ⟨wz, hwz⟩ : ∃ wz : World, wz = wc := ⟨_, rfl⟩
     subst hwz
     have hbz := hb.trans (hbc.mono hb.size)
     replace c0 := cell_later hbc c0
     obtain ⟨m, hm0⟩ : ∃ m : Nat, m = k + pb.size := ⟨_, rfl⟩
     have hw2 : IntKind.i64.wrap ((k : Int) + (pb.size : Int)) = (m : Int) := by rw [IntWalk.i64_in _ (by omega)]; omega
     have i1 := cell_regrown c0
     have hsb := sub_beq s pb k m hm0
     have HM := Lib.hid hm0
     have hkm : k ≤ m := by omega
     clear hb hbc hm0
     by_cases hgt : s.size < m
     ·have hgI : (s.size : Int) < (m : Int) := by omega
      have HF : Hid (res = false) := exP_no hpost.out (take_ne (by have := HM.out; rw [List.length_drop, ← HSP.out, ← HSS.out]; omega))
      clear hpost hsb
      try go_wp2_with fail
      refine wp_region_quiet_below (by kernel_rfl) (by kernel_rfl) ?_
      repeat (first | go_big_quiet_step ((fail)) | quiet_step ((fail)))
      refine wpQuiet_nil ?_
      intro _ hw'
      obtain ⟨⟨dq, osq⟩, hw''⟩ := hw'
      subst hw''
      have hb4 := below_regrown wz dq osq
      generalize grow (redrawn wz dq) osq = W4 at hb4 ⊢
      go_wp2_with fail
      go_ret
      exact ⟨ret_bool HF.out.symm, hbz.trans (hb4.mono hbz.size)⟩
     ·have hgI : ¬ (s.size : Int) < (m : Int) := by omega
      have hkI : (m : Int) ≤ (s.size : Int) := by omega
      have hkN : m ≤ s.size := by omega
      have hk0 : (k : Int) ≤ (m : Int) := by omega
      by_cases hm : ((L s).drop k).take (L pb).length = L pb
      ·rw [decide_eq_true hm] at hsb
       have HF : Hid (res = stE l (i + 1) (L (s.extract m s.size))) := by
        show _ = _
        rw [exP_yes hpost.out hm, extract_drop, Idn.L_B, ← HSP.out, HM.out]
       have hz : (s.extract m s.size).size ≤ x.size := by rw [extract_drop, Idn.size_B, List.length_drop, ← HSS.out]; omega
       clear hpost hm
       try go_wp2_with fail
       refine wp_region_quiet_below (by kernel_rfl) (by kernel_rfl) ?_
       repeat (first | go_big_quiet_step ((fail)) | quiet_step ((fail)))
       refine wpQuiet_nil ?_
       intro _ hw'
       obtain ⟨⟨dq, osq⟩, hw''⟩ := hw'
       subst hw''
       have hb4 := below_regrown wz dq osq
       generalize grow (redrawn wz dq) osq = W4 at hb4 ⊢
       replace c0 := cell_later hb4 c0
       go_wp2_with fail
       go_roundw
       case rel => exact ⟨i + 1, _, by omega, by go_num, rfl, hz, hbz.trans (hb4.mono hbz.size), HF⟩
       case measure => simp [intOf]; omega
      ·rw [decide_eq_false hm] at hsb
       have HF : Hid (res = false) := exP_no hpost.out hm
       clear hpost hm
       try go_wp2_with fail
       refine wp_region_quiet_below (by kernel_rfl) (by kernel_rfl) ?_
       repeat (first | go_big_quiet_step ((fail)) | quiet_step ((fail)))
       refine wpQuiet_nil ?_
       intro _ hw'
       obtain ⟨⟨dq, osq⟩, hw''⟩ := hw'
       subst hw''
       have hb4 := below_regrown wz dq osq
       generalize grow (redrawn wz dq) osq = W4 at hb4 ⊢
       go_wp2_with fail
       go_ret
       exact ⟨ret_bool HF.out.symm, hbz.trans (hb4.mono hbz.size)⟩
   ·have hgI : ¬ (pb.size : Int) < (s.size : Int) := by omega
    rw [show s.size - pb.size = 0 by omega] at HP
    go_upto_block 2 with fail
    go_cut [7] (fun t wx => ∃ k : Nat, t = .int .i64 k ∧ k ≤ s.size ∧ Below wo.heap.size wo wx ∧ Hid (exP l i (L pb) (L s) res k))
    case first =>
     clear hgI
     go_wp2_with fail
     go_loopw [7] (fun t wx => t = .int .i64 0 ∧ Below wo.heap.size wo wx) (fun _ _ => 0)
     case atStart => exact ⟨rfl, Below.refl _ _⟩
     case round =>
      obtain ⟨rfl, hbj⟩ := hrel
      obtain ⟨wx, hwx⟩ : ∃ wx : World, wx = wr := ⟨_, rfl⟩
      subst hwx
      try go_wp2_with fail
      refine wp_region_quiet_below (by kernel_rfl) (by kernel_rfl) ?_
      repeat (first | go_big_quiet_step ((fail)) | quiet_step ((fail)))
      refine wpQuiet_nil ?_
      intro _ hw'
      obtain ⟨⟨dq, osq⟩, hw''⟩ := hw'
      subst hw''
      have hb4 := below_regrown wx dq osq
      generalize grow (redrawn wx dq) osq = W4 at hb4 ⊢
      go_wp2_with fail
      go_meet
      exact ⟨0, rfl, by omega, hbj.trans (hb4.mono hbj.size), HP⟩
    case rest =>
     obtain ⟨k, rfl, hks, hbc, hpost⟩ := hcut
     obtain ⟨wz, hwz⟩ : ∃ wz : World, wz = wc := ⟨_, rfl⟩
     subst hwz
     have hbz := hb.trans (hbc.mono hb.size)
     replace c0 := cell_later hbc c0
     obtain ⟨m, hm0⟩ : ∃ m : Nat, m = k + pb.size := ⟨_, rfl⟩
     have hw2 : IntKind.i64.wrap ((k : Int) + (pb.size : Int)) = (m : Int) := by rw [IntWalk.i64_in _ (by omega)]; omega
     have i1 := cell_regrown c0
     have hsb := sub_beq s pb k m hm0
     have HM := Lib.hid hm0
     have hkm : k ≤ m := by omega
     clear hb hbc hm0
     by_cases hgt : s.size < m
     ·have hgI : (s.size : Int) < (m : Int) := by omega
      have HF : Hid (res = false) := exP_no hpost.out (take_ne (by have := HM.out; rw [List.length_drop, ← HSP.out, ← HSS.out]; omega))
      clear hpost hsb
      try go_wp2_with fail
      refine wp_region_quiet_below (by kernel_rfl) (by kernel_rfl) ?_
      repeat (first | go_big_quiet_step ((fail)) | quiet_step ((fail)))
      refine wpQuiet_nil ?_
      intro _ hw'
      obtain ⟨⟨dq, osq⟩, hw''⟩ := hw'
      subst hw''
      have hb4 := below_regrown wz dq osq
      generalize grow (redrawn wz dq) osq = W4 at hb4 ⊢
      go_wp2_with fail
      go_ret
      exact ⟨ret_bool HF.out.symm, hbz.trans (hb4.mono hbz.size)⟩
     ·have hgI : ¬ (s.size : Int) < (m : Int) := by omega
      have hkI : (m : Int) ≤ (s.size : Int) := by omega
      have hkN : m ≤ s.size := by omega
      have hk0 : (k : Int) ≤ (m : Int) := by omega
      by_cases hm : ((L s).drop k).take (L pb).length = L pb
      ·rw [decide_eq_true hm] at hsb
       have HF : Hid (res = stE l (i + 1) (L (s.extract m s.size))) := by
        show _ = _
        rw [exP_yes hpost.out hm, extract_drop, Idn.L_B, ← HSP.out, HM.out]
       have hz : (s.extract m s.size).size ≤ x.size := by rw [extract_drop, Idn.size_B, List.length_drop, ← HSS.out]; omega
       clear hpost hm
       try go_wp2_with fail
       refine wp_region_quiet_below (by kernel_rfl) (by kernel_rfl) ?_
       repeat (first | go_big_quiet_step ((fail)) | quiet_step ((fail)))
       refine wpQuiet_nil ?_
       intro _ hw'
       obtain ⟨⟨dq, osq⟩, hw''⟩ := hw'
       subst hw''
       have hb4 := below_regrown wz dq osq
       generalize grow (redrawn wz dq) osq = W4 at hb4 ⊢
       replace c0 := cell_later hb4 c0
       go_wp2_with fail
       go_roundw
       case rel => exact ⟨i + 1, _, by omega, by go_num, rfl, hz, hbz.trans (hb4.mono hbz.size), HF⟩
       case measure => simp [intOf]; omega
      ·rw [decide_eq_false hm] at hsb
       have HF : Hid (res = false) := exP_no hpost.out hm
       clear hpost hm
       try go_wp2_with fail
       refine wp_region_quiet_below (by kernel_rfl) (by kernel_rfl) ?_
       repeat (first | go_big_quiet_step ((fail)) | quiet_step ((fail)))
       refine wpQuiet_nil ?_
       intro _ hw'
       obtain ⟨⟨dq, osq⟩, hw''⟩ := hw'
       subst hw''
       have hb4 := below_regrown wz dq osq
       generalize grow (redrawn wz dq) osq = W4 at hb4 ⊢
       go_wp2_with fail
       go_ret
       exact ⟨ret_bool HF.out.symm, hbz.trans (hb4.mono hbz.size)⟩
  have hI : ((i : Int) == ((l.length - 1 : Nat) : Int)) = false := by rw [beq_eq_false_iff_ne]; omega
  go_upto_block 2 with fail
  go_cut [7] (fun t wx => ∃ k : Nat, t = .int .i64 k ∧ k ≤ s.size ∧ Below wo.heap.size wo wx ∧ Hid (exP l i (L pb) (L s) res k))
  case first =>
   go_wp2_with fail
   go_loopw [7] (fun t wx => ∃ k : Nat, t = .int .i64 k ∧ k ≤ s.size ∧ Below wo.heap.size wo wx ∧ Hid (if i = 0 then k = 0 else fnd (L pb) (L s) = fnd (L pb) ((L s).drop k))) (fun t _ => s.size - (intOf t).toNat)
   case atStart => exact ⟨0, rfl, Nat.zero_le _, Below.refl _ _, by show ite _ _ _; split <;> rfl⟩
   case round =>
    obtain ⟨k, rfl, hks, hbj, hk⟩ := hrel
    obtain ⟨wx, hwx⟩ : ∃ wx : World, wx = wr := ⟨_, rfl⟩
    subst hwx
    by_cases h0 : i = 0
    ·have h0N : ¬ 0 < i := by omega
     have hk0 : k = 0 := by have := hk.out; rwa [if_pos h0] at this
     have HP : Hid (exP l i (L pb) (L s) res k) := by subst h0 hk0; exact exP_zero hgp hinv.out
     clear hk hinv
     try go_wp2_with fail
     refine wp_region_quiet_below (by kernel_rfl) (by kernel_rfl) ?_
     repeat (first | go_big_quiet_step ((fail)) | quiet_step ((fail)))
     refine wpQuiet_nil ?_
     intro _ hw'
     obtain ⟨⟨dq, osq⟩, hw''⟩ := hw'
     subst hw''
     have hb4 := below_regrown wx dq osq
     generalize grow (redrawn wx dq) osq = W4 at hb4 ⊢
     go_wp2_with fail
     go_meet
     exact ⟨k, rfl, hks, hbj.trans (hb4.mono hbj.size), HP⟩
    have h0N : 0 < i := by omega
    have hJ : i < l.length - 1 := by omega
    have hf : fnd (L pb) (L s) = fnd (L pb) ((L s).drop k) := by have := hk.out; rwa [if_neg h0] at this
    obtain ⟨m, hm0⟩ : ∃ m : Nat, m = k + pb.size := ⟨_, rfl⟩
    have hw2 : IntKind.i64.wrap ((k : Int) + (pb.size : Int)) = (m : Int) := by rw [IntWalk.i64_in _ (by omega)]; omega
    have hsb := sub_beq s pb k m hm0
    have HM := Lib.hid hm0
    have hkm : k ≤ m := by omega
    clear hm0
    have i1 := cell_regrown (cell_later hbj c0)
    by_cases hgt : m < s.size
    ·have hgI : (m : Int) < (s.size : Int) := by omega
     have hkI : (m : Int) ≤ (s.size : Int) := by omega
     have hkN : m ≤ s.size := by omega
     have hk0 : (k : Int) ≤ (m : Int) := by omega
     by_cases hm : ((L s).drop k).take (L pb).length = L pb
     ·have HP : Hid (exP l i (L pb) (L s) res k) := exP_in hgp (by omega) (by omega) hinv.out hf hm
      rw [decide_eq_true hm] at hsb
      clear hk hinv hf hm
      try go_wp2_with fail
      refine wp_region_quiet_below (by kernel_rfl) (by kernel_rfl) ?_
      repeat (first | go_big_quiet_step ((fail)) | quiet_step ((fail)))
      refine wpQuiet_nil ?_
      intro _ hw'
      obtain ⟨⟨dq, osq⟩, hw''⟩ := hw'
      subst hw''
      have hb4 := below_regrown wx dq osq
      generalize grow (redrawn wx dq) osq = W4 at hb4 ⊢
      go_wp2_with fail
      go_meet
      exact ⟨k, rfl, hks, hbj.trans (hb4.mono hbj.size), HP⟩
     ·have HN : Hid (if i = 0 then k + 1 = 0 else fnd (L pb) (L s) = fnd (L pb) ((L s).drop (k + 1))) := by show ite _ _ _; rw [if_neg h0]; exact fnd_next hf hm
      rw [decide_eq_false hm] at hsb
      clear hk hinv hf hm
      try go_wp2_with fail
      refine wp_region_quiet_below (by kernel_rfl) (by kernel_rfl) ?_
      repeat (first | go_big_quiet_step ((fail)) | quiet_step ((fail)))
      refine wpQuiet_nil ?_
      intro _ hw'
      obtain ⟨⟨dq, osq⟩, hw''⟩ := hw'
      subst hw''
      have hb4 := below_regrown wx dq osq
      generalize grow (redrawn wx dq) osq = W4 at hb4 ⊢
      go_wp2_with fail
      go_roundw
      case rel => exact ⟨k + 1, by go_num, by omega, hbj.trans (hb4.mono hbj.size), HN⟩
      case measure => simp [intOf]; omega
    ·have hgI : ¬ (m : Int) < (s.size : Int) := by omega
     have HP : Hid (exP l i (L pb) (L s) res k) := exP_out hgp (by omega) (by omega) hinv.out hf (by have := HM.out; rw [← HSP.out, ← HSS.out]; omega)
     clear hk hinv hf
     try go_wp2_with fail
     refine wp_region_quiet_below (by kernel_rfl) (by kernel_rfl) ?_
     repeat (first | go_big_quiet_step ((fail)) | quiet_step ((fail)))
     refine wpQuiet_nil ?_
     intro _ hw'
     obtain ⟨⟨dq, osq⟩, hw''⟩ := hw'
     subst hw''
     have hb4 := below_regrown wx dq osq
     generalize grow (redrawn wx dq) osq = W4 at hb4 ⊢
     go_wp2_with fail
     go_meet
     exact ⟨k, rfl, hks, hbj.trans (hb4.mono hbj.size), HP⟩
  case rest =>
   obtain ⟨k, rfl, hks, hbc, hpost⟩ := hcut
   obtain ⟨wz, hwz⟩ : ∃ wz : World, wz = wc := ⟨_, rfl⟩
   subst hwz
   have hbz := hb.trans (hbc.mono hb.size)
   replace c0 := cell_later hbc c0
   obtain ⟨m, hm0⟩ : ∃ m : Nat, m = k + pb.size := ⟨_, rfl⟩
   have hw2 : IntKind.i64.wrap ((k : Int) + (pb.size : Int)) = (m : Int) := by rw [IntWalk.i64_in _ (by omega)]; omega
   have i1 := cell_regrown c0
   have hsb := sub_beq s pb k m hm0
   have HM := Lib.hid hm0
   have hkm : k ≤ m := by omega
   clear hb hbc hm0
   by_cases hgt : s.size < m
   ·have hgI : (s.size : Int) < (m : Int) := by omega
    have HF : Hid (res = false) := exP_no hpost.out (take_ne (by have := HM.out; rw [List.length_drop, ← HSP.out, ← HSS.out]; omega))
    clear hpost hsb
    try go_wp2_with fail
    refine wp_region_quiet_below (by kernel_rfl) (by kernel_rfl) ?_
    repeat (first | go_big_quiet_step ((fail)) | quiet_step ((fail)))
    refine wpQuiet_nil ?_
    intro _ hw'
    obtain ⟨⟨dq, osq⟩, hw''⟩ := hw'
    subst hw''
    have hb4 := below_regrown wz dq osq
    generalize grow (redrawn wz dq) osq = W4 at hb4 ⊢
    go_wp2_with fail
    go_ret
    exact ⟨ret_bool HF.out.symm, hbz.trans (hb4.mono hbz.size)⟩
   ·have hgI : ¬ (s.size : Int) < (m : Int) := by omega
    have hkI : (m : Int) ≤ (s.size : Int) := by omega
    have hkN : m ≤ s.size := by omega
    have hk0 : (k : Int) ≤ (m : Int) := by omega
    by_cases hm : ((L s).drop k).take (L pb).length = L pb
    ·rw [decide_eq_true hm] at hsb
     have HF : Hid (res = stE l (i + 1) (L (s.extract m s.size))) := by
      show _ = _
      rw [exP_yes hpost.out hm, extract_drop, Idn.L_B, ← HSP.out, HM.out]
     have hz : (s.extract m s.size).size ≤ x.size := by rw [extract_drop, Idn.size_B, List.length_drop, ← HSS.out]; omega
     clear hpost hm
     try go_wp2_with fail
     refine wp_region_quiet_below (by kernel_rfl) (by kernel_rfl) ?_
     repeat (first | go_big_quiet_step ((fail)) | quiet_step ((fail)))
     refine wpQuiet_nil ?_
     intro _ hw'
     obtain ⟨⟨dq, osq⟩, hw''⟩ := hw'
     subst hw''
     have hb4 := below_regrown wz dq osq
     generalize grow (redrawn wz dq) osq = W4 at hb4 ⊢
     replace c0 := cell_later hb4 c0
     go_wp2_with fail
     go_roundw
     case rel => exact ⟨i + 1, _, by omega, by go_num, rfl, hz, hbz.trans (hb4.mono hbz.size), HF⟩
     case measure => simp [intOf]; omega
    ·rw [decide_eq_false hm] at hsb
     have HF : Hid (res = false) := exP_no hpost.out hm
     clear hpost hm
     try go_wp2_with fail
     refine wp_region_quiet_below (by kernel_rfl) (by kernel_rfl) ?_
     repeat (first | go_big_quiet_step ((fail)) | quiet_step ((fail)))
     refine wpQuiet_nil ?_
     intro _ hw'
     obtain ⟨⟨dq, osq⟩, hw''⟩ := hw'
     subst hw''
     have hb4 := below_regrown wz dq osq
     generalize grow (redrawn wz dq) osq = W4 at hb4 ⊢
     go_wp2_with fail
     go_ret
     exact ⟨ret_bool HF.out.symm, hbz.trans (hb4.mono hbz.size)⟩
end Go.Proofs.YtmamnmjfbadiiaaGreatDoor
/- identityref01: occurs, Match. -/
namespace Go.Proofs.YtmamnmjfbadiiaaGreatDoor
open Go.RowKit Go.Sort
open Idn (L B Bs drop_L take_L size_L)
def occF (s t : Bs) (i : Nat) : Bool := decide (i + t.length ≤ s.length) && decide ((s.drop i).take t.length = t)
theorem occ_iff {s t : Bs} {i : Nat} (hi : i ≤ s.length) : occF s t i = true ↔ (s.drop i).take t.length = t := by
 unfold occF
 rw [Bool.and_eq_true, decide_eq_true_eq, decide_eq_true_eq]
 refine ⟨fun h => h.2, fun h => ⟨?_, h⟩⟩
 have := congrArg List.length h
 rw [List.length_take, List.length_drop] at this
 omega
theorem fold_no {l : List Bs} {x : Bs} (h : l.length < 2) : foldF x l = false := by unfold foldF; rw [if_pos h]
theorem fold_unf {l : List Bs} {x : Bs} (h : 2 ≤ l.length) : foldF x l = match cutP (Idn.lower (l.headD [])) (Idn.fold x) with
    | none => false
    | some r => ((cutS (Idn.lower (l.getLastD [])) r).bind fun r => fnds ((l.drop 1).dropLast.map Idn.lower) r).isSome := by
  unfold foldF
  rw [if_neg (by omega)]
  cases cutP (Idn.lower (l.headD [])) (Idn.fold x) with
  | none => rfl
  | some r =>
    show _ = ((cutS (Idn.lower (l.getLastD [])) r).bind fun r => fnds ((l.drop 1).dropLast.map Idn.lower) r).isSome
    rw [ends_law]
    show (match fnds ((l.drop 1).dropLast.map Idn.lower) r with
      | none => false
      | some r => (Idn.lower (l.getLastD [])).isSuffixOf r) = _
    cases fnds ((l.drop 1).dropLast.map Idn.lower) r <;> rfl
def fold3 (t a z : Bs) (ms : List Bs) : Bool := match cutP a t with
  | none => false
  | some r => ((cutS z r).bind fun r => fnds ms r).isSome
theorem fold3_A {t a z : Bs} {ms : List Bs} (h : occF t a 0 = false) : fold3 t a z ms = false := by
 have hn : ¬ a.isPrefixOf t = true := fun h' => by
  have h1 := pre_iff.1 h'
  have := (occ_iff (s := t) (t := a) (i := 0) (Nat.zero_le _)).2 (by rw [List.drop_zero]; exact h1)
  rw [h] at this; cases this
 unfold fold3 cutP
 rw [if_neg hn]
theorem fold3_pre {t a z : Bs} {ms : List Bs} (h : occF t a 0 = true) : a.length ≤ t.length ∧ fold3 t a z ms = ((cutS z (t.drop a.length)).bind fun r => fnds ms r).isSome := by
 have h1 := (occ_iff (s := t) (t := a) (i := 0) (Nat.zero_le _)).1 h
 rw [List.drop_zero] at h1
 refine ⟨?_, ?_⟩
 ·have := congrArg List.length h1
  rw [List.length_take] at this; omega
 ·unfold fold3 cutP
  rw [if_pos (pre_iff.2 h1)]
theorem fold3_B {t a z : Bs} {ms : List Bs} (h : occF t a 0 = true) (hl : t.length < a.length + z.length) : fold3 t a z ms = false := by
 obtain ⟨h0, h1⟩ := fold3_pre (z := z) (ms := ms) h
 rw [h1]
 unfold cutS
 rw [if_neg]
 ·rfl
 ·intro h2
  have := suf_iff.1 h2
  have := congrArg List.length this
  rw [List.length_take, List.length_drop, List.length_drop] at this
  omega
theorem fold3_suf {t a z : Bs} {k : Nat} (hk : k + z.length = t.length) (hl : a.length ≤ k) : z.isSuffixOf (t.drop a.length) = true ↔ occF t z k = true := by
 rw [occ_iff (by omega), suf_iff, List.drop_drop, List.length_drop]
 rw [show a.length + (t.length - a.length - z.length) = k by omega]
theorem fold3_C {t a z : Bs} {ms : List Bs} {k : Nat} (h : occF t a 0 = true) (hk : k + z.length = t.length) (hl : a.length ≤ k) (hz : occF t z k = false) : fold3 t a z ms = false := by
 rw [(fold3_pre h).2]
 unfold cutS
 rw [if_neg]
 ·rfl
 ·intro h2
  rw [(fold3_suf hk hl).1 h2] at hz; cases hz
theorem fold3_D {t a z : Bs} {ms : List Bs} {k : Nat} (h : occF t a 0 = true) (hk : k + z.length = t.length) (hl : a.length ≤ k) (hz : occF t z k = true) : fold3 t a z ms = (fnds ms ((t.take k).drop a.length)).isSome := by
 rw [(fold3_pre h).2]
 unfold cutS
 rw [if_pos ((fold3_suf hk hl).2 hz), Option.bind_some, List.length_drop, show t.length - a.length - z.length = k - a.length by omega, List.drop_take]
theorem mid_none {t p : Bs} {e a : Nat} (he : e ≤ t.length) (h : e < a + p.length) (ha : a ≤ e) : fnd p ((t.take e).drop a) = none := fnd_short (by rw [List.length_drop, List.length_take]; omega)
theorem mid_sub {t p : Bs} {e a : Nat} (h : a + p.length ≤ e) : ((t.take e).drop a).take p.length = (t.drop a).take p.length := by
 rw [List.drop_take, List.take_take, show min p.length (e - a) = p.length by omega]
theorem mid_hit {t p : Bs} {e a : Nat} (he : e ≤ t.length) (h : a + p.length ≤ e) (hm : occF t p a = true) : fnd p ((t.take e).drop a) = some ((t.take e).drop (a + p.length)) := by
 rw [fnd_pre (by rw [mid_sub h]; exact (occ_iff (by omega)).1 hm), List.drop_drop]
theorem mid_step {t p : Bs} {e a : Nat} (he : e ≤ t.length) (h : a + p.length ≤ e) (hm : occF t p a = false) : a + 1 ≤ e ∧ fnd p ((t.take e).drop a) = fnd p ((t.take e).drop (a + 1)) := by
 have hn : ¬ (t.drop a).take p.length = p := fun h' => by rw [(occ_iff (by omega)).2 h'] at hm; cases hm
 refine ⟨?_, ?_⟩
 ·apply Nat.lt_of_not_le
  intro hle
  exact hn (by rw [show p.length = 0 by omega, List.take_zero]; exact (List.eq_nil_of_length_eq_zero (by omega)).symm)
 ·rw [fnd_not (by rw [mid_sub h]; exact hn), List.drop_drop]
theorem mids_cons {l : List Bs} {i : Nat} {p : Bs} (hp : l[i]? = some p) (h : i + 1 < l.length) : (l.drop i).dropLast = p :: (l.drop (i + 1)).dropLast := by
 rw [drop_get hp, List.dropLast_cons_of_ne_nil]
 intro e
 have := congrArg List.length e
 rw [List.length_drop, List.length_nil] at this
 omega
theorem mids_nil {l : List Bs} {i : Nat} (h : l.length ≤ i + 1) : (l.drop i).dropLast = [] := by
 apply List.eq_nil_of_length_eq_zero
 rw [List.length_dropLast, List.length_drop]; omega
def fndP (t : Bs) (e a : Nat) (l : List Bs) (k : Nat) : Bool := (fnds ((l.drop k).dropLast.map Idn.lower) ((t.take e).drop a)).isSome
theorem fndP_end {t : Bs} {e a : Nat} {l : List Bs} {k : Nat} (h : l.length ≤ k + 1) : fndP t e a l k = true := by
 unfold fndP
 rw [mids_nil h]; rfl
def midP (t p : Bs) (ms : List Bs) (e : Nat) (res : Bool) (a : Nat) : Prop := if a + p.length ≤ e then res = (fnds ms ((t.take e).drop (a + p.length))).isSome else res = false
theorem r1_occurs_any (s t : ByteArray) (i : Nat) (w : World) (hs : s.size ≤ 1000000000) (ht : t.size ≤ 1000000000) (hi : i ≤ 1000000000) :
  Calls Tryz.prog 169 #[.string s, .string t, .int .i64 (i : Int)] w fun e w' => e = .returned (.bool (occF (L s) (L t) i)) ∧ w = w' := by
 obtain ⟨m, hm0⟩ : ∃ m : Nat, m = i + t.size := ⟨_, rfl⟩
 have hw2 : IntKind.i64.wrap ((i : Int) + (t.size : Int)) = (m : Int) := by rw [IntWalk.i64_in _ (by omega)]; omega
 have hsb := sub_beq s t i m hm0
 have HM := Lib.hid hm0
 have hkm : i ≤ m := by omega
 clear hm0
 go_enter Tryz.func169, Tryz.ntmps169
 by_cases h : m ≤ s.size
 ·have hI : (m : Int) ≤ (s.size : Int) := by omega
  have hk0 : (i : Int) ≤ (m : Int) := by omega
  have HF : Hid (occF (L s) (L t) i = decide (((L s).drop i).take (L t).length = L t)) := by
   show _ = _
   unfold occF
   rw [decide_eq_true (by have := HM.out; have := size_L s; have := size_L t; omega)]; rfl
  generalize decide (((L s).drop i).take (L t).length = L t) = q at *
  cases q
  all_goals
   go_wp2_with fail
   go_ret
   exact ⟨ret_bool HF.out.symm, rfl⟩
 ·have hI : ¬ (m : Int) ≤ (s.size : Int) := by omega
  have HF : Hid (occF (L s) (L t) i = false) := by
   show _ = _
   unfold occF
   rw [decide_eq_false (by have := HM.out; have := size_L s; have := size_L t; omega)]; rfl
  go_wp2_with fail
  go_ret
  exact ⟨ret_bool HF.out.symm, rfl⟩
theorem r1_Match_any (x : ByteArray) (v : Value) (l : List Bs) (w : World) (hv : StrsV w w.heap.size v l) (hl : l.length ≤ 100000) (hx : x.size ≤ 100000000) (hll : ∀ y ∈ l, y.length ≤ 100000000) :
  Calls Tryz.prog 123 #[.string x, v] w fun e w' => e = .returned (.bool (foldF (L x) l)) ∧ Below w.heap.size w w' := by
 obtain ⟨A, c, rfl, hc⟩ := SlV.shape hv
 by_cases h2 : l.length < 2
 case pos =>
  have HF : Hid (foldF (L x) l = false) := fold_no h2
  have hI : (l.length : Int) < 2 := by omega
  clear h2
  go_enter Tryz.func123, Tryz.ntmps123
  go_wp2_with fail
  go_ret
  exact ⟨ret_bool HF.out.symm, Below.refl _ _⟩
 have hI : ¬ (l.length : Int) < 2 := by omega
 have hw1 : IntKind.i64.wrap ((l.length : Int) - 1) = ((l.length - 1 : Nat) : Int) := by rw [IntWalk.i64_in _ (by omega)]; omega
 have hF := fold_unf (x := L x) (by omega : 2 ≤ l.length)
 rw [headD_get (by omega), lastD_get (by omega)] at hF
 have HR : Hid (foldF (L x) l = fold3 (Idn.fold (L x)) (Idn.lower l[0]) (Idn.lower l[l.length - 1]) ((l.drop 1).dropLast.map Idn.lower)) := hF
 have hfl := Idn.length_fold (L x)
 have hla := Idn.length_lower l[0]
 have hlz := Idn.length_lower l[l.length - 1]
 have ha9 := hll _ (List.getElem_mem (l := l) (n := 0) (by omega))
 have hz9 := hll _ (List.getElem_mem (l := l) (n := l.length - 1) (by omega))
 have kF := fun W => r_fold_any x W (by omega)
 have k1 := fun W => r_lower_any (B l[0]) W (by rw [Idn.size_B]; omega)
 have k2 := fun W => r_lower_any (B l[l.length - 1]) W (by rw [Idn.size_B]; omega)
 simp only [Idn.L_B] at k1 k2
 obtain ⟨tb, htb⟩ : ∃ tb : ByteArray, tb = B (Idn.fold (L x)) := ⟨_, rfl⟩
 obtain ⟨ab, hab⟩ : ∃ tb : ByteArray, tb = B (Idn.lower l[0]) := ⟨_, rfl⟩
 obtain ⟨zb, hzb⟩ : ∃ tb : ByteArray, tb = B (Idn.lower l[l.length - 1]) := ⟨_, rfl⟩
 rw [← htb] at kF
 rw [← hab] at k1
 rw [← hzb] at k2
 have et : Idn.fold (L x) = L tb := by rw [htb, Idn.L_B]
 have ea : Idn.lower l[0] = L ab := by rw [hab, Idn.L_B]
 have ez : Idn.lower l[l.length - 1] = L zb := by rw [hzb, Idn.L_B]
 rw [et, ea, ez] at HR
 rw [et] at hfl
 rw [ea] at hla
 rw [ez] at hlz
 clear htb hab hzb et ea ez hF
 have HT0 := Lib.hid (size_L tb)
 have HA0 := Lib.hid (size_L ab)
 have HZ0 := Lib.hid (size_L zb)
 have ht8 : tb.size ≤ 100000000 := by have := size_L tb; have := size_L x; omega
 have ha8 : ab.size ≤ 100000000 := by have := size_L ab; omega
 have hz8 : zb.size ≤ 100000000 := by have := size_L zb; omega
 clear hfl hla hlz ha9 hz9 hx
 generalize foldF (L x) l = res at *
 obtain ⟨b, off, hA, hbl, c0⟩ := StrsV.cell hv (k := 0) (by omega)
 obtain ⟨b', off', hA', _, c1⟩ := StrsV.cell hv (k := l.length - 1) (by omega)
 rw [hA] at hA'
 injection hA' with hA'
 injection hA' with q1 q2
 subst q1 q2
 subst hA
 rw [Nat.add_zero] at c0
 have kO := fun (pb : ByteArray) (i : Nat) (hp : pb.size ≤ 1000000000) (hi : i ≤ 1000000000) W => r1_occurs_any tb pb i W (by omega) hp hi
 have k3 := fun W => show Calls Tryz.prog 169 #[.string tb, .string ab, .int .i64 0] W _ from kO ab 0 (by omega) (by omega) W
 have hlI : (0 : Int) < (l.length : Int) := by omega
 have hlJ : ((l.length - 1 : Nat) : Int) < (l.length : Int) := by omega
 go_enter Tryz.func123, Tryz.ntmps123
 go_wp2_with fail
 refine (kF w).mono ?_
 rintro e w1 ⟨rfl, hb1⟩
 replace c0 := cell_later hb1 c0
 replace c1 := cell_later hb1 c1
 have i0 := cell_regrown c0
 have i1 := cell_regrown c1
 have q1 := cq (W := w1) fun V _ => k1 V
 have q2 := cq (W := w1) fun V _ => k2 V
 clear kF k1 k2 c0 c1
 go_wp2_with fail
 refine wp_region_quiet_below (by kernel_rfl) (by kernel_rfl) ?_
 repeat (first | go_big_quiet_step ((go_at_call 90; first | with_reducible exact q1 _ _ | with_reducible exact q2 _ _)) | quiet_step ((go_at_call 90; first | with_reducible exact q1 _ _ | with_reducible exact q2 _ _)))
 refine wpQuiet_nil ?_
 intro _ hw'
 obtain ⟨⟨dq, osq⟩, hw''⟩ := hw'
 subst hw''
 have hb4 := below_regrown w1 dq osq
 generalize grow (redrawn w1 dq) osq = W4 at hb4 ⊢
 have hb := hb1.trans (hb4.mono hb1.size)
 clear q1 q2 i0 i1 hb1 hb4
 have HA : Hid (occF (L tb) (L ab) 0 = false → res = false) := fun h => by rw [HR.out, fold3_A h]
 by_cases hlen : ab.size + zb.size ≤ tb.size
 case neg =>
  have hwE : IntKind.i64.wrap ((tb.size : Int) - (zb.size : Int)) = (tb.size : Int) - (zb.size : Int) := IntWalk.i64_in _ (by omega)
  have hltE : (tb.size : Int) - (zb.size : Int) < (ab.size : Int) := by omega
  have HB : Hid (occF (L tb) (L ab) 0 = true → res = false) := fun h => by rw [HR.out, fold3_B h (by rw [← HT0.out, ← HA0.out, ← HZ0.out]; omega)]
  clear HR hlen
  generalize occF (L tb) (L ab) 0 = o1 at *
  have HF : Hid (res = false) := by
   show _ = _
   cases o1
   ·exact HA.out rfl
   ·exact HB.out rfl
  clear HA HB
  cases o1
  all_goals
   go_wp2_with fail
   refine (k3 W4).mono ?_
   rintro e wd ⟨rfl, rfl⟩
   go_wp2_with fail
   go_ret
   exact ⟨ret_bool HF.out.symm, hb⟩
 have hwE : IntKind.i64.wrap ((tb.size : Int) - (zb.size : Int)) = ((tb.size - zb.size : Nat) : Int) := by rw [IntWalk.i64_in _ (by omega)]; omega
 obtain ⟨E, hE⟩ : ∃ E : Nat, E = tb.size - zb.size := ⟨_, rfl⟩
 rw [← hE] at hwE
 have hEz : E + zb.size = tb.size := by omega
 have haE : ab.size ≤ E := by omega
 have hEt : Hid (E ≤ (L tb).length) := by show _ ≤ _; rw [← HT0.out]; omega
 have hltE : ¬ (E : Int) < (ab.size : Int) := by omega
 clear hE hlen
 have HC : Hid (occF (L tb) (L ab) 0 = true → occF (L tb) (L zb) E = false → res = false) := fun h h' => by rw [HR.out, fold3_C h (by rw [← HT0.out, ← HZ0.out]; omega) (by rw [← HA0.out]; omega) h']
 have HD : Hid (occF (L tb) (L ab) 0 = true → occF (L tb) (L zb) E = true → res = fndP (L tb) E ab.size l 1) := fun h h' => by rw [HR.out, fold3_D h (by rw [← HT0.out, ← HZ0.out]; omega) (by rw [← HA0.out]; omega) h', ← HA0.out]; rfl
 have k4 := fun W => kO zb E (by omega) (by omega) W
 clear HR
 generalize occF (L tb) (L ab) 0 = o1 at *
 cases o1
 case false =>
  have HF : Hid (res = false) := HA.out rfl
  clear HA HC HD k4
  go_wp2_with fail
  refine (k3 W4).mono ?_
  rintro e wd ⟨rfl, rfl⟩
  go_wp2_with fail
  go_ret
  exact ⟨ret_bool HF.out.symm, hb⟩
 replace HC : Hid (occF (L tb) (L zb) E = false → res = false) := fun h => HC.out rfl h
 replace HD : Hid (occF (L tb) (L zb) E = true → res = fndP (L tb) E ab.size l 1) := fun h => HD.out rfl h
 clear HA
 go_wp2_with fail
 refine (k3 W4).mono ?_
 rintro e wd ⟨rfl, rfl⟩
 generalize occF (L tb) (L zb) E = o2 at *
 cases o2
 case false =>
  have HF : Hid (res = false) := HC.out rfl
  clear HC HD k3
  go_wp2_with fail
  refine (k4 W4).mono ?_
  rintro e wd ⟨rfl, rfl⟩
  go_wp2_with fail
  go_ret
  exact ⟨ret_bool HF.out.symm, hb⟩
 have HS : Hid (res = fndP (L tb) E ab.size l 1) := HD.out rfl
 clear HC HD k3
 go_wp2_with fail
 refine (k4 W4).mono ?_
 rintro e wd ⟨rfl, rfl⟩
 clear k4
 go_wp2_with fail
 go_loopw [9, 10] (fun a i wr => ∃ (a' k : Nat), a = .int .i64 a' ∧ i = .int .i64 k ∧ 1 ≤ k ∧ k < l.length ∧ a' ≤ E ∧ Below w.heap.size w wr ∧ Hid (res = fndP (L tb) E a' l k)) (fun _ i _ => l.length - (intOf i).toNat)
 case atStart => exact ⟨ab.size, 1, rfl, rfl, Nat.le_refl _, by omega, haE, hb, HS⟩
 case round =>
  clear HS hb
  obtain ⟨a, k, rfl, rfl, hk1, hkl, haE, hb, hinv⟩ := hrel
  obtain ⟨wo, hwo⟩ : ∃ wo : World, wo = wr := ⟨_, rfl⟩
  subst hwo
  have hwk : IntKind.i64.wrap ((k : Int) + 1) = ((k + 1 : Nat) : Int) := by rw [IntWalk.i64_in _ (by omega)]; rfl
  by_cases hlt : k + 1 < l.length
  case neg =>
   have hltI : ¬ ((k + 1 : Nat) : Int) < (l.length : Int) := by omega
   have HF : Hid (res = true) := by show _ = _; rw [hinv.out, fndP_end (by omega)]
   clear hinv
   go_wp2_with fail
   go_ret
   exact ⟨ret_bool HF.out.symm, hb⟩
  have hltI : ((k + 1 : Nat) : Int) < (l.length : Int) := by omega
  have hkI : (k : Int) < (l.length : Int) := by omega
  obtain ⟨b2, off2, hA2, _, c0⟩ := StrsV.cell (SlV.keep hv hb) hkl
  injection hA2 with hA2
  injection hA2 with q1 q2
  subst q1 q2
  have hp9 := hll _ (List.getElem_mem hkl)
  have hlp := Idn.length_lower l[k]
  have kP := r_lower_any (B l[k]) wo (by rw [Idn.size_B]; omega)
  rw [Idn.L_B] at kP
  have hmc : (l.drop k).dropLast.map Idn.lower = Idn.lower l[k] :: (l.drop (k + 1)).dropLast.map Idn.lower := by rw [mids_cons (List.getElem?_eq_getElem hkl) hlt]; rfl
  replace hinv : Hid (res = (fnds (Idn.lower l[k] :: (l.drop (k + 1)).dropLast.map Idn.lower) (((L tb).take E).drop a)).isSome) := by
   have h := hinv.out
   unfold fndP at h
   rw [hmc] at h
   exact h
  obtain ⟨pb, hpb⟩ : ∃ tb : ByteArray, tb = B (Idn.lower l[k]) := ⟨_, rfl⟩
  have ep : Idn.lower l[k] = L pb := by rw [hpb, Idn.L_B]
  rw [← hpb] at kP
  rw [ep] at hinv hlp
  have HP0 := Lib.hid (size_L pb)
  have hp8 : pb.size ≤ 100000000 := by have := size_L pb; omega
  clear hlp hp9
  obtain ⟨ms, hms⟩ : ∃ ms, ms = (l.drop (k + 1)).dropLast.map Idn.lower := ⟨_, rfl⟩
  rw [← hms] at hinv
  have HMS := Lib.hid hms
  clear hmc hpb ep hms
  have hO := fun (i : Nat) (hi : i ≤ 1000000000) W => kO pb i (by omega) hi W
  go_wp2_with fail
  refine kP.mono ?_
  rintro e w2 ⟨rfl, hb2⟩
  have hb9 := hb.trans (hb2.mono hb.size)
  clear kP c0 hb hb2 kO
  go_upto_block 2 with fail
  go_cut [9] (fun t wx => ∃ a1 : Nat, t = .int .i64 a1 ∧ a1 ≤ E ∧ Below w2.heap.size w2 wx ∧ Hid (midP (L tb) (L pb) ms E res a1))
  case first =>
   go_wp2_with fail
   go_loopw [9] (fun t wx => ∃ a1 : Nat, t = .int .i64 a1 ∧ a1 ≤ E ∧ Below w2.heap.size w2 wx ∧ Hid (fnd (L pb) (((L tb).take E).drop a) = fnd (L pb) (((L tb).take E).drop a1))) (fun t _ => E - (intOf t).toNat)
   case atStart => exact ⟨a, rfl, haE, Below.refl _ _, rfl⟩
   case round =>
    obtain ⟨a1, rfl, ha1, hbj, hf⟩ := hrel
    obtain ⟨m, hm0⟩ : ∃ m : Nat, m = a1 + pb.size := ⟨_, rfl⟩
    have hw2 : IntKind.i64.wrap ((a1 : Int) + (pb.size : Int)) = (m : Int) := by rw [IntWalk.i64_in _ (by omega)]; omega
    have HM := Lib.hid hm0
    clear hm0
    by_cases hle : m ≤ E
    ·have hleI : (m : Int) ≤ (E : Int) := by omega
     have hml := HM.out
     have hcall := hO a1 (by omega) wr
     have hle9 : a1 + pb.size ≤ E := by omega
     clear hml
     by_cases hm : occF (L tb) (L pb) a1 = true
     ·have HP : Hid (midP (L tb) (L pb) ms E res a1) := by
       show midP _ _ _ _ _ _
       unfold midP
       rw [if_pos (by rw [← HP0.out]; omega), hinv.out, fnds, hf.out, mid_hit hEt.out (by rw [← HP0.out]; omega) hm]; rfl
      rw [hm] at hcall
      clear hinv hf hm hO
      go_wp2_with fail
      refine hcall.mono ?_
      rintro e wd ⟨rfl, rfl⟩
      go_wp2_with fail
      go_meet
      exact ⟨a1, rfl, ha1, hbj, HP⟩
     ·rw [Bool.not_eq_true] at hm
      obtain ⟨hs1, hs2⟩ := mid_step hEt.out (by rw [← HP0.out]; omega) hm
      have HN : Hid (fnd (L pb) (((L tb).take E).drop a) = fnd (L pb) (((L tb).take E).drop (a1 + 1))) := by show _ = _; rw [hf.out, hs2]
      rw [hm] at hcall
      clear hinv hf hm hO hs2
      go_wp2_with fail
      refine hcall.mono ?_
      rintro e wd ⟨rfl, rfl⟩
      go_wp2_with fail
      go_roundw
      case rel => exact ⟨a1 + 1, by go_num, hs1, hbj, HN⟩
      case measure => simp [intOf]; omega
    ·have hleI : ¬ (m : Int) ≤ (E : Int) := by omega
     have hle9 : ¬ a1 + pb.size ≤ E := by have := HM.out; omega
     have HP : Hid (midP (L tb) (L pb) ms E res a1) := by
      show midP _ _ _ _ _ _
      unfold midP
      rw [if_neg (by rw [← HP0.out]; omega), hinv.out, fnds, hf.out, mid_none hEt.out (by rw [← HP0.out]; omega) ha1]; rfl
     clear hinv hf hO
     go_wp2_with fail
     go_meet
     exact ⟨a1, rfl, ha1, hbj, HP⟩
  case rest =>
   obtain ⟨a1, rfl, ha1, hbc, hpost⟩ := hcut
   have hbz := hb9.trans (hbc.mono hb9.size)
   obtain ⟨m, hm0⟩ : ∃ m : Nat, m = a1 + pb.size := ⟨_, rfl⟩
   have hw2 : IntKind.i64.wrap ((a1 : Int) + (pb.size : Int)) = (m : Int) := by rw [IntWalk.i64_in _ (by omega)]; omega
   have HM := Lib.hid hm0
   clear hinv hO hb9 hbc
   by_cases hle : a1 + pb.size ≤ E
   ·have hgI : ¬ (E : Int) < (m : Int) := by omega
    have hme : m ≤ E := by omega
    have HF : Hid (res = (fnds ms (((L tb).take E).drop (a1 + pb.size))).isSome) := by
     have h := hpost.out
     unfold midP at h
     rw [if_pos (by rw [← HP0.out]; omega)] at h
     show _ = _
     rw [h, ← HP0.out]
    rw [← hm0] at HF
    clear hpost hm0 hle
    go_wp2_with fail
    go_roundw
    case rel => exact ⟨_, .int .i64 (m : Int), .int .i64 ((k : Int) + 1), ⟨m, rfl, k + 1, rfl, by omega, hlt, hme, by show _ = _; rw [HF.out, HMS.out]; rfl⟩, rfl, rfl, rfl⟩
    case measure => simp [intOf]; omega
   ·have hgI : (E : Int) < (m : Int) := by omega
    have HF : Hid (res = false) := by
     have h := hpost.out
     unfold midP at h
     rwa [if_neg (by rw [← HP0.out]; omega)] at h
    clear hpost hm0
    go_wp2_with fail
    go_ret
    exact ⟨ret_bool HF.out.symm, hbz⟩
end Go.Proofs.YtmamnmjfbadiiaaGreatDoor
