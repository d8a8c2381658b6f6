/- Part 10 of the proof that identitylaw11.IndexCandidates returns true for every data that it may be called with: proof: the package variables hold what the program lays; nothing else is asked. -/
import Derived.Test.YtbkkchhimhlhcaaGreatDoorIcd08
set_option linter.unusedVariables false
set_option linter.unusedSimpArgs false
set_option maxRecDepth 100000
set_option maxHeartbeats 16000000
/- Walks of the reference of layer 7: class. -/
namespace Go.Proofs.YtbkkchhimhlhcaaGreatDoor
open Go.RowKit Go.Sort
open Idn (L B Bs drop_L take_L size_L)
theorem r_class_1 (v : Value) (s : Idn.Sch) (k : Nat) (w : World) (hv : SchV w w.heap.size v s) (hs : SSm s) (hk : k < s.classes.length) (h1 : Idn.name s.classes[k].name = false) :
  Calls Tryz.prog 127 #[v, .int .i64 k] w fun e w' => e = .returned (.int .i64 5) ∧ Below w.heap.size w w' := by
 obtain ⟨a, b, rfl, hT, hC⟩ := hv
 obtain ⟨A, ca, rfl, hca⟩ := SlV.shape hT
 obtain ⟨A', cb, rfl, hcb⟩ := SlV.shape hC
 obtain ⟨g, off, vm, vn, rfl, hg, c0, c1, c2, c3, hm, hn⟩ := ClassesV.cell hC hk
 obtain ⟨Am, cm, rfl, hcm⟩ := SlV.shape hm
 obtain ⟨An, cn, rfl, hcn⟩ := SlV.shape hn
 obtain ⟨hs1, hs2, hsm, hsn⟩ := hs.2.2 s.classes[k] (List.getElem_mem hk)
 have hN := fun W => r_name_any (B s.classes[k].name) W (by rw [Idn.size_B]; omega)
 rw [Idn.L_B] at hN
 have hcl := hs.2.1
 have htl := hs.1.1
 have hkI : (k : Int) < (s.classes.length : Int) := by omega
 rw [h1] at hN
 go_enter Tryz.func127, Tryz.ntmps127
 go_wp2_with (go_at_call 84; refine (hN _).mono ?_; rintro e w' ⟨rfl, rfl⟩)
 go_ret
 exact ⟨rfl, ((Below.refl _ _).alloc (Nat.le_refl _) _).alloc (by simp) _⟩
theorem r_class_2 (v : Value) (s : Idn.Sch) (k : Nat) (w : World) (hv : SchV w w.heap.size v s) (hs : SSm s) (hk : k < s.classes.length) (h1 : Idn.name s.classes[k].name = true) (j : Nat) (h2 : Idn.ixC (s.classes.take k) s.classes[k].name = some j) :
  Calls Tryz.prog 127 #[v, .int .i64 k] w fun e w' => e = .returned (.int .i64 7) ∧ Below w.heap.size w w' := by
 obtain ⟨a, b, rfl, hT, hC⟩ := hv
 obtain ⟨A, ca, rfl, hca⟩ := SlV.shape hT
 obtain ⟨A', cb, rfl, hcb⟩ := SlV.shape hC
 obtain ⟨g, off, vm, vn, rfl, hg, c0, c1, c2, c3, hm, hn⟩ := ClassesV.cell hC hk
 obtain ⟨Am, cm, rfl, hcm⟩ := SlV.shape hm
 obtain ⟨An, cn, rfl, hcn⟩ := SlV.shape hn
 obtain ⟨hs1, hs2, hsm, hsn⟩ := hs.2.2 s.classes[k] (List.getElem_mem hk)
 have hN := fun W => r_name_any (B s.classes[k].name) W (by rw [Idn.size_B]; omega)
 rw [Idn.L_B] at hN
 have hcl := hs.2.1
 have htl := hs.1.1
 have hkI : (k : Int) < (s.classes.length : Int) := by omega
 rw [h1] at hN
 go_enter Tryz.func127, Tryz.ntmps127
 go_wp2_with (go_at_call 84; refine (hN _).mono ?_; rintro e w' ⟨rfl, rfl⟩)
 with_reducible refine gen2 (R := fun W => Code.wp Tryz.prog _ _ _ W) ?_
 intro W hbW hszW hc1 hc2
 have b0 := hc1 0 _ rfl
 have b1 := hc1 1 _ rfl
 have d0 := hc2 0 _ rfl
 have d1 := hc2 1 _ rfl
 have d2 := hc2 2 _ rfl
 have d3 := hc2 3 _ rfl
 clear hc1 hc2 c0 c1 c2 c3 hN
 have hTW : ∀ W', Below W.heap.size W W' → TypesV W' W'.heap.size (.slice A s.types.length ca) s.types := fun W' hb => SlV.mono (SlV.keep (SlV.keep hT hbW) (hb.mono hbW.size)) (Nat.le_trans hbW.size hb.size)
 have hCW : ∀ W', Below W.heap.size W W' → ClassesV W' W'.heap.size (.slice (some ⟨g, off, none⟩) k cb) (s.classes.take k) := fun W' hb =>
  SlV.take (ClassesV.mono (ClassesV.keep (ClassesV.keep hC hbW) (hb.mono hbW.size)) (Nat.le_trans hbW.size hb.size)) k (by omega)
 have q0 := fun W' (hb : Below W.heap.size W W') => r_classAt_any _ _ (B s.classes[k].name) W' (hCW W' hb) (CSm.take hs.2 k) (by rw [Idn.size_B]; omega)
 rw [Idn.L_B] at q0
 have hkc : (k : Int) ≤ (cb : Int) := by omega
 have hk0 : (0 : Int) ≤ (k : Int) := by omega
 have k0 := cell_regrown b0
 have k1 := cell_regrown b1
 have m0 := cell_regrown d0
 rw [h2] at q0
 have q1 := cq q0
 clear q0
 have hj : decide ((0 : Int) ≤ Idn.optI (some j)) = true := decide_eq_true (by simp only [Idn.optI]; omega)
 refine wp_region_quiet_below (by kernel_rfl) (by kernel_rfl) ?_
 repeat (first | go_big_quiet_step ((exact q1 _ _)) | quiet_step ((exact q1 _ _)))
 refine wpQuiet_nil ?_
 intro _ hw'
 obtain ⟨⟨dq, osq⟩, hw''⟩ := hw'
 subst hw''
 have hb2 := below_regrown W dq osq
 generalize grow (redrawn W dq) osq = W2 at hb2 ⊢
 go_wp2
 go_ret
 exact ⟨rfl, hbW.trans (hb2.mono hbW.size)⟩
theorem r_class_3 (v : Value) (s : Idn.Sch) (k : Nat) (w : World) (hv : SchV w w.heap.size v s) (hs : SSm s) (hk : k < s.classes.length) (h1 : Idn.name s.classes[k].name = true) (h2 : Idn.ixC (s.classes.take k) s.classes[k].name = none)
  (h3 : (!s.classes[k].super.isEmpty && (Idn.ixC (s.classes.take k) s.classes[k].super).isNone) = true) :
  Calls Tryz.prog 127 #[v, .int .i64 k] w fun e w' => e = .returned (.int .i64 6) ∧ Below w.heap.size w w' := by
 obtain ⟨a, b, rfl, hT, hC⟩ := hv
 obtain ⟨A, ca, rfl, hca⟩ := SlV.shape hT
 obtain ⟨A', cb, rfl, hcb⟩ := SlV.shape hC
 obtain ⟨g, off, vm, vn, rfl, hg, c0, c1, c2, c3, hm, hn⟩ := ClassesV.cell hC hk
 obtain ⟨Am, cm, rfl, hcm⟩ := SlV.shape hm
 obtain ⟨An, cn, rfl, hcn⟩ := SlV.shape hn
 obtain ⟨hs1, hs2, hsm, hsn⟩ := hs.2.2 s.classes[k] (List.getElem_mem hk)
 have hN := fun W => r_name_any (B s.classes[k].name) W (by rw [Idn.size_B]; omega)
 rw [Idn.L_B] at hN
 have hcl := hs.2.1
 have htl := hs.1.1
 have hkI : (k : Int) < (s.classes.length : Int) := by omega
 rw [h1] at hN
 go_enter Tryz.func127, Tryz.ntmps127
 go_wp2_with (go_at_call 84; refine (hN _).mono ?_; rintro e w' ⟨rfl, rfl⟩)
 with_reducible refine gen2 (R := fun W => Code.wp Tryz.prog _ _ _ W) ?_
 intro W hbW hszW hc1 hc2
 have b0 := hc1 0 _ rfl
 have b1 := hc1 1 _ rfl
 have d0 := hc2 0 _ rfl
 have d1 := hc2 1 _ rfl
 have d2 := hc2 2 _ rfl
 have d3 := hc2 3 _ rfl
 clear hc1 hc2 c0 c1 c2 c3 hN
 have hTW : ∀ W', Below W.heap.size W W' → TypesV W' W'.heap.size (.slice A s.types.length ca) s.types := fun W' hb => SlV.mono (SlV.keep (SlV.keep hT hbW) (hb.mono hbW.size)) (Nat.le_trans hbW.size hb.size)
 have hCW : ∀ W', Below W.heap.size W W' → ClassesV W' W'.heap.size (.slice (some ⟨g, off, none⟩) k cb) (s.classes.take k) := fun W' hb =>
  SlV.take (ClassesV.mono (ClassesV.keep (ClassesV.keep hC hbW) (hb.mono hbW.size)) (Nat.le_trans hbW.size hb.size)) k (by omega)
 have q0 := fun W' (hb : Below W.heap.size W W') => r_classAt_any _ _ (B s.classes[k].name) W' (hCW W' hb) (CSm.take hs.2 k) (by rw [Idn.size_B]; omega)
 rw [Idn.L_B] at q0
 have hkc : (k : Int) ≤ (cb : Int) := by omega
 have hk0 : (0 : Int) ≤ (k : Int) := by omega
 have k0 := cell_regrown b0
 have k1 := cell_regrown b1
 have m0 := cell_regrown d0
 rw [h2] at q0
 have q1 := cq q0
 clear q0
 have hj : decide ((0 : Int) ≤ Idn.optI none) = false := rfl
 refine wp_region_quiet_below (by kernel_rfl) (by kernel_rfl) ?_
 repeat (first | go_big_quiet_step ((exact q1 _ _)) | quiet_step ((exact q1 _ _)))
 refine wpQuiet_nil ?_
 intro _ hw'
 obtain ⟨⟨dq, osq⟩, hw''⟩ := hw'
 subst hw''
 have hb2 := below_regrown W dq osq
 generalize grow (redrawn W dq) osq = W2 at hb2 ⊢
 clear q1 hj k0 k1 m0
 replace b0 := cell_later hb2 b0
 replace b1 := cell_later hb2 b1
 replace d1 := cell_later hb2 d1
 replace d2 := cell_later hb2 d2
 replace d3 := cell_later hb2 d3
 clear d0
 have hbw2 : Below w.heap.size w W2 := hbW.trans (hb2.mono hbW.size)
 have hbW2 : Below W.heap.size W W2 := hb2
 go_wp2
 have k0 := cell_regrown b0
 have k1 := cell_regrown b1
 have m1 := cell_regrown d1
 have q0 := fun W' (hb : Below W2.heap.size W2 W') => r_classAt_any _ _ (B s.classes[k].super) W' (hCW W' (hb2.trans (hb.mono hb2.size))) (CSm.take hs.2 k) (by rw [Idn.size_B]; omega)
 rw [Idn.L_B] at q0
 have q1 := cq q0
 clear q0
 have hE : (B s.classes[k].super).toList.isEmpty = false := by rw [toList_L, Idn.L_B]; simp at h3 ⊢; exact h3.1
 have hI : decide (Idn.optI (Idn.ixC (s.classes.take k) s.classes[k].super) < (0 : Int)) = true := by
  simp only [Bool.and_eq_true, Option.isNone_iff_eq_none] at h3; rw [h3.2]; rfl
 clear h1 h2 h3
 refine wp_region_quiet_below (by kernel_rfl) (by kernel_rfl) ?_
 repeat (first | go_big_quiet_step ((exact q1 _ _)) | quiet_step ((exact q1 _ _)))
 refine wpQuiet_nil ?_
 intro _ hw'
 obtain ⟨⟨dq, osq⟩, hw''⟩ := hw'
 subst hw''
 have hb3 := below_regrown W2 dq osq
 generalize grow (redrawn W2 dq) osq = W3 at hb3 ⊢
 go_wp2
 go_ret
 exact ⟨rfl, hbw2.trans (hb3.mono hbw2.size)⟩
end Go.Proofs.YtbkkchhimhlhcaaGreatDoor
/- Walks of the reference of layer 7: class, the last way. -/
namespace Go.Proofs.YtbkkchhimhlhcaaGreatDoor
open Go.RowKit Go.Sort
open Idn (L B Bs drop_L take_L size_L)
theorem r_class_4 (v : Value) (s : Idn.Sch) (k : Nat) (w : World) (hv : SchV w w.heap.size v s) (hs : SSm s) (hk : k < s.classes.length) (h1 : Idn.name s.classes[k].name = true) (h2 : Idn.ixC (s.classes.take k) s.classes[k].name = none)
    (h3 : (!s.classes[k].super.isEmpty && (Idn.ixC (s.classes.take k) s.classes[k].super).isNone) = false) :
    Calls Tryz.prog 127 #[v, .int .i64 k] w fun e w' => e = .returned (.int .i64 (if decide (64 < s.classes[k].must.length) || decide (64 < s.classes[k].may.length) then 3 else if Idn.lacks s.types s.classes[k].must || Idn.lacks s.types s.classes[k].may then 6 else 0)) ∧ Below w.heap.size w w' := by
 obtain ⟨a, b, rfl, hT, hC⟩ := hv
 obtain ⟨A, ca, rfl, hca⟩ := SlV.shape hT
 obtain ⟨A', cb, rfl, hcb⟩ := SlV.shape hC
 obtain ⟨g, off, vm, vn, rfl, hg, c0, c1, c2, c3, hm, hn⟩ := ClassesV.cell hC hk
 obtain ⟨Am, cm, rfl, hcm⟩ := SlV.shape hm
 obtain ⟨An, cn, rfl, hcn⟩ := SlV.shape hn
 obtain ⟨hs1, hs2, hsm, hsn⟩ := hs.2.2 s.classes[k] (List.getElem_mem hk)
 have hN := fun W => r_name_any (B s.classes[k].name) W (by rw [Idn.size_B]; omega)
 rw [Idn.L_B] at hN
 have hcl := hs.2.1
 have htl := hs.1.1
 have hkI : (k : Int) < (s.classes.length : Int) := by omega
 rw [h1] at hN
 generalize hrr : (if decide (64 < s.classes[k].must.length) || decide (64 < s.classes[k].may.length) then (3 : Int) else if Idn.lacks s.types s.classes[k].must || Idn.lacks s.types s.classes[k].may then 6 else 0) = r
 have hR0 : Hid _ := hrr
 clear hrr
 go_enter Tryz.func127, Tryz.ntmps127
 go_wp2_with (go_at_call 84; refine (hN _).mono ?_; rintro e w' ⟨rfl, rfl⟩)
 with_reducible refine gen2 (R := fun W => Code.wp Tryz.prog _ _ _ W) ?_
 intro W hbW hszW hc1 hc2
 have b0 := hc1 0 _ rfl
 have b1 := hc1 1 _ rfl
 have d0 := hc2 0 _ rfl
 have d1 := hc2 1 _ rfl
 have d2 := hc2 2 _ rfl
 have d3 := hc2 3 _ rfl
 clear hc1 hc2 c0 c1 c2 c3 hN
 have hTW : ∀ W', Below W.heap.size W W' → TypesV W' W'.heap.size (.slice A s.types.length ca) s.types := fun W' hb => SlV.mono (SlV.keep (SlV.keep hT hbW) (hb.mono hbW.size)) (Nat.le_trans hbW.size hb.size)
 have hCW : ∀ W', Below W.heap.size W W' → ClassesV W' W'.heap.size (.slice (some ⟨g, off, none⟩) k cb) (s.classes.take k) := fun W' hb =>
  SlV.take (ClassesV.mono (ClassesV.keep (ClassesV.keep hC hbW) (hb.mono hbW.size)) (Nat.le_trans hbW.size hb.size)) k (by omega)
 have q0 := fun W' (hb : Below W.heap.size W W') => r_classAt_any _ _ (B s.classes[k].name) W' (hCW W' hb) (CSm.take hs.2 k) (by rw [Idn.size_B]; omega)
 rw [Idn.L_B] at q0
 have hkc : (k : Int) ≤ (cb : Int) := by omega
 have hk0 : (0 : Int) ≤ (k : Int) := by omega
 have k0 := cell_regrown b0
 have k1 := cell_regrown b1
 have m0 := cell_regrown d0
 rw [h2] at q0
 have q1 := cq q0
 clear q0
 have hj : decide ((0 : Int) ≤ Idn.optI none) = false := rfl
 refine wp_region_quiet_below (by kernel_rfl) (by kernel_rfl) ?_
 repeat (first | go_big_quiet_step ((go_at_call 192; exact q1 _ _)) | quiet_step ((go_at_call 192; exact q1 _ _)))
 refine wpQuiet_nil ?_
 intro _ hw'
 obtain ⟨⟨dq, osq⟩, hw''⟩ := hw'
 subst hw''
 have hb2 := below_regrown W dq osq
 generalize grow (redrawn W dq) osq = W2 at hb2 ⊢
 clear q1 hj k0 k1 m0
 replace b0 := cell_later hb2 b0
 replace b1 := cell_later hb2 b1
 replace d1 := cell_later hb2 d1
 replace d2 := cell_later hb2 d2
 replace d3 := cell_later hb2 d3
 clear d0
 have hbw2 : Below w.heap.size w W2 := hbW.trans (hb2.mono hbW.size)
 have hbW2 : Below W.heap.size W W2 := hb2
 go_wp2
 have k0 := cell_regrown b0
 have k1 := cell_regrown b1
 have m1 := cell_regrown d1
 have q0 := fun W' (hb : Below W2.heap.size W2 W') => r_classAt_any _ _ (B s.classes[k].super) W' (hCW W' (hb2.trans (hb.mono hb2.size))) (CSm.take hs.2 k) (by rw [Idn.size_B]; omega)
 rw [Idn.L_B] at q0
 have q1 := cq q0
 clear q0
 have hcase : ((B s.classes[k].super).toList.isEmpty = true ∧ True) ∨ ((B s.classes[k].super).toList.isEmpty = false ∧ decide (Idn.optI (Idn.ixC (s.classes.take k) s.classes[k].super) < (0 : Int)) = false) := by
  rw [toList_L, Idn.L_B]
  cases he : s.classes[k].super.isEmpty
  ·right
   rw [he] at h3
   cases hx : Idn.ixC (s.classes.take k) s.classes[k].super with
   | none => rw [hx] at h3; simp at h3
   | some j => exact ⟨rfl, decide_eq_false (by simp only [Idn.optI]; omega)⟩
  ·exact .inl ⟨rfl, trivial⟩
 clear h1 h2 h3
 rcases hcase with ⟨hE, hI⟩ | ⟨hE, hI⟩
 all_goals
  refine wp_region_quiet_below (by kernel_rfl) (by kernel_rfl) ?_
  repeat (first | go_big_quiet_step ((go_at_call 192; exact q1 _ _)) | quiet_step ((go_at_call 192; exact q1 _ _)))
  refine wpQuiet_nil ?_
  intro _ hw'
  obtain ⟨⟨dq, osq⟩, hw''⟩ := hw'
  subst hw''
  have hb3 := below_regrown W2 dq osq
  generalize grow (redrawn W2 dq) osq = W3 at hb3 ⊢
  clear q1 k0 k1 m1 hE hI
  replace b0 := cell_later hb3 b0
  replace d2 := cell_later hb3 d2
  replace d3 := cell_later hb3 d3
  clear b1 d1
  have hbw3 : Below w.heap.size w W3 := hbw2.trans (hb3.mono hbw2.size)
  have hbW3 : Below W.heap.size W W3 := hbW2.trans (hb3.mono hbW2.size)
  by_cases h4 : 64 < s.classes[k].must.length
  ·have h4' : (64 : Int) < (s.classes[k].must.length : Int) := by omega
   have hR : Hid (r = 3) := by show _ = _; rw [← hR0.out, decide_eq_true h4]; rfl
   go_wp2
   go_ret
   exact ⟨ret_int (by rw [hR.out]), hbw3⟩
  by_cases h5 : 64 < s.classes[k].may.length
  ·have h4' : (s.classes[k].must.length : Int) ≤ (64 : Int) := by omega
   have h5' : (64 : Int) < (s.classes[k].may.length : Int) := by omega
   have hR : Hid (r = 3) := by show _ = _; rw [← hR0.out, decide_eq_true h5, Bool.or_true]; rfl
   go_wp2
   go_ret
   exact ⟨ret_int (by rw [hR.out]), hbw3⟩
  have h4' : (s.classes[k].must.length : Int) ≤ (64 : Int) := by omega
  have h5' : (s.classes[k].may.length : Int) ≤ (64 : Int) := by omega
  have hR : Hid (r = if Idn.lacks s.types s.classes[k].must || Idn.lacks s.types s.classes[k].may then 6 else 0) := by show _ = _; rw [← hR0.out, decide_eq_false h4, decide_eq_false h5]; rfl
  clear h4 h5
  go_wp2
  go_loopw [6] (fun i wr => ∃ m : Nat, m ≤ s.classes[k].must.length ∧ i = .int .i64 m ∧ Below W3.heap.size W3 wr ∧ Hid (Idn.lacks s.types s.classes[k].must = Idn.lacks s.types (s.classes[k].must.drop m))) (fun i _ => s.classes[k].must.length - (intOf i).toNat)
  case atStart => exact ⟨0, Nat.zero_le _, rfl, Below.refl _ _, by show _ = _; simp⟩
  case round =>
   obtain ⟨m, hm', rfl, hb, hinv⟩ := hrel
   replace b0 := cell_later hb b0
   replace d2 := cell_later hb d2
   replace d3 := cell_later hb d3
   have hbWr : Below W.heap.size W wr := hbW3.trans (hb.mono hbW3.size)
   by_cases hlt : m < s.classes[k].must.length
   ·obtain ⟨b, off, rfl, hbl, c0⟩ := StrsV.cell (SlV.keep (SlV.keep hm hbW) (hbWr.mono hbW.size)) hlt
    have hsz := hsm.2 s.classes[k].must[m] (List.getElem_mem hlt)
    have q0 := fun W' (hb' : Below wr.heap.size wr W') => r_typeAt_any _ _ (B s.classes[k].must[m]) W' (hTW W' (hbWr.trans (hb'.mono hbWr.size))) hs.1 (by rw [Idn.size_B]; omega)
    rw [Idn.L_B] at q0
    have hltI : (m : Int) < (s.classes[k].must.length : Int) := by omega
    have hstep := Idn.lacks_drop s.types _ m hlt hinv.out
    have k0 := cell_regrown b0
    have k2 := cell_regrown d2
    have kc := cell_regrown c0
    cases hx : Idn.ixT s.types s.classes[k].must[m] with
    | none =>
     rw [hx] at q0 hstep
     have q1 := cq q0
     have hI : decide (Idn.optI none < (0 : Int)) = true := rfl
     have HF : Hid (r = 6) := by show _ = _; rw [hR.out, hstep.1 rfl]; rfl
     clear q0 hstep hx
     go_wp2
     refine wp_region_quiet_below (by kernel_rfl) (by kernel_rfl) ?_
     repeat (first | go_big_quiet_step ((go_at_call 126; exact q1 _ _)) | quiet_step ((go_at_call 126; exact q1 _ _)))
     refine wpQuiet_nil ?_
     intro _ hw'
     obtain ⟨⟨dq, osq⟩, hw''⟩ := hw'
     subst hw''
     have hb4 := below_regrown wr dq osq
     generalize grow (redrawn wr dq) osq = W4 at hb4 ⊢
     go_wp2
     go_ret
     exact ⟨ret_int (by rw [HF.out]), hbw3.trans ((hb.trans (hb4.mono hb.size)).mono hbw3.size)⟩
    | some j =>
     rw [hx] at q0 hstep
     have q1 := cq q0
     have hI : decide (Idn.optI (some j) < (0 : Int)) = false := decide_eq_false (by simp only [Idn.optI]; omega)
     have HF : Hid (Idn.lacks s.types s.classes[k].must = Idn.lacks s.types (s.classes[k].must.drop (m + 1))) := hstep.2 rfl
     clear q0 hstep hx
     go_wp2
     refine wp_region_quiet_below (by kernel_rfl) (by kernel_rfl) ?_
     repeat (first | go_big_quiet_step ((go_at_call 126; exact q1 _ _)) | quiet_step ((go_at_call 126; exact q1 _ _)))
     refine wpQuiet_nil ?_
     intro _ hw'
     obtain ⟨⟨dq, osq⟩, hw''⟩ := hw'
     subst hw''
     have hb4 := below_regrown wr dq osq
     generalize grow (redrawn wr dq) osq = W4 at hb4 ⊢
     go_wp2
     go_roundw
     case rel => exact ⟨m + 1, by omega, by go_num, hb.trans (hb4.mono hb.size), HF⟩
     case measure => simp [intOf]; omega
   ·have hA : Hid (Idn.lacks s.types s.classes[k].must = false) := by show _ = _; rw [hinv.out, List.drop_eq_nil_of_le (by omega)]; rfl
    have hmx : ¬ ((m : Int) < (s.classes[k].must.length : Int)) := by omega
    have hbw5 : Below w.heap.size w wr := hbw3.trans (hb.mono hbw3.size)
    have hbW5 : Below W.heap.size W wr := hbWr
    clear hinv hlt hbWr
    obtain ⟨W5, hW5⟩ : ∃ W5, W5 = wr := ⟨_, rfl⟩
    subst hW5
    go_wp2
    clear d2
    go_loopw [7] (fun i wr => ∃ m : Nat, m ≤ s.classes[k].may.length ∧ i = .int .i64 m ∧ Below W5.heap.size W5 wr ∧ Hid (Idn.lacks s.types s.classes[k].may = Idn.lacks s.types (s.classes[k].may.drop m))) (fun i _ => s.classes[k].may.length - (intOf i).toNat)
    case atStart => exact ⟨0, Nat.zero_le _, rfl, Below.refl _ _, by show _ = _; simp⟩
    case round =>
     obtain ⟨m, hn', rfl, hb, hinv⟩ := hrel
     replace b0 := cell_later hb b0
     replace d3 := cell_later hb d3
     have hbWr : Below W.heap.size W wr := hbW5.trans (hb.mono hbW5.size)
     by_cases hlt : m < s.classes[k].may.length
     ·obtain ⟨b, off, rfl, hbl, c0⟩ := StrsV.cell (SlV.keep (SlV.keep hn hbW) (hbWr.mono hbW.size)) hlt
      have hsz := hsn.2 s.classes[k].may[m] (List.getElem_mem hlt)
      have q0 := fun W' (hb' : Below wr.heap.size wr W') => r_typeAt_any _ _ (B s.classes[k].may[m]) W' (hTW W' (hbWr.trans (hb'.mono hbWr.size))) hs.1 (by rw [Idn.size_B]; omega)
      rw [Idn.L_B] at q0
      have hltI : (m : Int) < (s.classes[k].may.length : Int) := by omega
      have hstep := Idn.lacks_drop s.types _ m hlt hinv.out
      have k0 := cell_regrown b0
      have k3 := cell_regrown d3
      have kc := cell_regrown c0
      cases hx : Idn.ixT s.types s.classes[k].may[m] with
      | none =>
       rw [hx] at q0 hstep
       have q1 := cq q0
       have hI : decide (Idn.optI none < (0 : Int)) = true := rfl
       have HF : Hid (r = 6) := by show _ = _; rw [hR.out, hA.out, hstep.1 rfl]; rfl
       clear q0 hstep hx
       go_wp2
       refine wp_region_quiet_below (by kernel_rfl) (by kernel_rfl) ?_
       repeat (first | go_big_quiet_step ((go_at_call 126; exact q1 _ _)) | quiet_step ((go_at_call 126; exact q1 _ _)))
       refine wpQuiet_nil ?_
       intro _ hw'
       obtain ⟨⟨dq, osq⟩, hw''⟩ := hw'
       subst hw''
       have hb4 := below_regrown wr dq osq
       generalize grow (redrawn wr dq) osq = W4 at hb4 ⊢
       go_wp2
       go_ret
       exact ⟨ret_int (by rw [HF.out]), hbw5.trans ((hb.trans (hb4.mono hb.size)).mono hbw5.size)⟩
      | some j =>
       rw [hx] at q0 hstep
       have q1 := cq q0
       have hI : decide (Idn.optI (some j) < (0 : Int)) = false := decide_eq_false (by simp only [Idn.optI]; omega)
       have HF : Hid (Idn.lacks s.types s.classes[k].may = Idn.lacks s.types (s.classes[k].may.drop (m + 1))) := hstep.2 rfl
       clear q0 hstep hx
       go_wp2
       refine wp_region_quiet_below (by kernel_rfl) (by kernel_rfl) ?_
       repeat (first | go_big_quiet_step ((go_at_call 126; exact q1 _ _)) | quiet_step ((go_at_call 126; exact q1 _ _)))
       refine wpQuiet_nil ?_
       intro _ hw'
       obtain ⟨⟨dq, osq⟩, hw''⟩ := hw'
       subst hw''
       have hb4 := below_regrown wr dq osq
       generalize grow (redrawn wr dq) osq = W4 at hb4 ⊢
       go_wp2
       go_roundw
       case rel => exact ⟨m + 1, by omega, by go_num, hb.trans (hb4.mono hb.size), HF⟩
       case measure => simp [intOf]; omega
     ·have hB : Hid (Idn.lacks s.types s.classes[k].may = false) := by show _ = _; rw [hinv.out, List.drop_eq_nil_of_le (by omega)]; rfl
      have hmy : ¬ ((m : Int) < (s.classes[k].may.length : Int)) := by omega
      go_wp2
      go_ret
      exact ⟨ret_int (by rw [hR.out, hA.out, hB.out]; rfl), hbw5.trans (hb.mono hbw5.size)⟩
end Go.Proofs.YtbkkchhimhlhcaaGreatDoor
/- Walks of the reference of layer 7: class joined, Check. -/
namespace Go.Proofs.YtbkkchhimhlhcaaGreatDoor
open Go.RowKit Go.Sort
open Idn (L B Bs drop_L take_L size_L)
theorem r_class_any (v : Value) (s : Idn.Sch) (k : Nat) (w : World) (hv : SchV w w.heap.size v s) (hs : SSm s) (hk : k < s.classes.length) :
    Calls Tryz.prog 127 #[v, .int .i64 k] w fun e w' => e = .returned (.int .i64 (Idn.clErr s.types (s.classes.take k) s.classes[k])) ∧ Below w.heap.size w w' := by
 unfold Idn.clErr
 cases h1 : Idn.name s.classes[k].name
 ·exact r_class_1 v s k w hv hs hk h1
 cases h2 : Idn.ixC (s.classes.take k) s.classes[k].name with
 | some j => exact r_class_2 v s k w hv hs hk h1 j h2
 | none =>
  cases h3 : (!s.classes[k].super.isEmpty && (Idn.ixC (s.classes.take k) s.classes[k].super).isNone)
  ·exact r_class_4 v s k w hv hs hk h1 h2 h3
  ·exact r_class_3 v s k w hv hs hk h1 h2 h3
theorem r_check_any (v : Value) (s : Idn.Sch) (w : World) (hv : SchV w w.heap.size v s) (hs : SSm s) :
    Calls Tryz.prog 53 #[v] w fun e w' => e = .returned (.int .i64 (Idn.sCheck s)) ∧ Below w.heap.size w w' := by
 have hv0 := hv
 obtain ⟨a, b, rfl, hT, hC⟩ := hv
 obtain ⟨A, ca, rfl, hca⟩ := SlV.shape hT
 obtain ⟨A', cb, rfl, hcb⟩ := SlV.shape hC
 have hcl := hs.2.1
 have htl := hs.1.1
 generalize hrr : Idn.sCheck s = r
 have hR0 : Hid _ := hrr
 clear hrr
 go_enter Tryz.func53, Tryz.ntmps53
 by_cases h1 : 64 < s.types.length
 ·have h1' : (64 : Int) < (s.types.length : Int) := by omega
  have hR : Hid (r = 3) := by show _ = _; rw [← hR0.out]; unfold Idn.sCheck; rw [decide_eq_true h1]; rfl
  clear hR0
  go_wp2
  go_ret
  exact ⟨ret_int (by rw [hR.out]), (Below.refl _ _).alloc (Nat.le_refl _) _⟩
 by_cases h2 : 32 < s.classes.length
 ·have h1' : (s.types.length : Int) ≤ (64 : Int) := by omega
  have h2' : (32 : Int) < (s.classes.length : Int) := by omega
  have hR : Hid (r = 3) := by show _ = _; rw [← hR0.out]; unfold Idn.sCheck; rw [decide_eq_true h2, Bool.or_true]; rfl
  clear hR0
  go_wp2
  go_ret
  exact ⟨ret_int (by rw [hR.out]), (Below.refl _ _).alloc (Nat.le_refl _) _⟩
 have h1' : (s.types.length : Int) ≤ (64 : Int) := by omega
 have h2' : (s.classes.length : Int) ≤ (32 : Int) := by omega
 have hR : Hid (r = if Idn.tysErr [] s.types != 0 then Idn.tysErr [] s.types else if Idn.clsErr s.types [] s.classes != 0 then Idn.clsErr s.types [] s.classes else Idn.mainErr s.types) := by
  show _ = _; rw [← hR0.out]; unfold Idn.sCheck; rw [decide_eq_false h1, decide_eq_false h2]; rfl
 clear hR0 h1 h2
 go_wp2
 with_reducible refine gen1 (R := fun W => Code.wp Tryz.prog _ _ _ W) ?_
 intro W hbW hszW hc1 _
 have b0 := hc1 0 _ rfl
 have b1 := hc1 1 _ rfl
 clear hc1 h1' h2'
 have hTW : ∀ W', Below W.heap.size W W' → TypesV W' W'.heap.size (.slice A s.types.length ca) s.types := fun W' hb => SlV.mono (SlV.keep (SlV.keep hT hbW) (hb.mono hbW.size)) (Nat.le_trans hbW.size hb.size)
 have hSW : ∀ W', Below W.heap.size W W' → SchV W' W'.heap.size (.agg #[.slice A s.types.length ca, .slice A' s.classes.length cb]) s := fun W' hb =>
  SchV.mono (SchV.keep (SchV.keep hv0 hbW) (hb.mono hbW.size)) (Nat.le_trans hbW.size hb.size)
 clear hv0
 go_loopw [3] (fun i wr => ∃ k : Nat, k ≤ s.types.length ∧ i = .int .i64 k ∧ Below W.heap.size W wr ∧ Hid (Idn.tysErr [] s.types = Idn.tysErr (s.types.take k) (s.types.drop k))) (fun i _ => s.types.length - (intOf i).toNat)
 case atStart => exact ⟨0, Nat.zero_le _, rfl, Below.refl _ _, by show _ = _; simp⟩
 case round =>
  obtain ⟨k, hk, rfl, hb, hinv⟩ := hrel
  have hb0 := hb
  replace b0 := cell_later hb b0
  replace b1 := cell_later hb b1
  by_cases hlt : k < s.types.length
  ·have hX := hTW wr hb
   obtain ⟨b, off, rfl, hbl, c0, c1, c2⟩ := TypesV.cell hX hlt
   have hmem := hs.1.2 s.types[k] (List.getElem_mem hlt)
   have hN := fun W => r_name_any (B s.types[k].name) W (by rw [Idn.size_B]; omega)
   rw [Idn.L_B] at hN
   have hstep := Idn.tys_step s.types k hlt _ hinv.out
   clear hinv
   have hltI : (k : Int) < (s.types.length : Int) := by omega
   cases n0 : Idn.name s.types[k].name
   ·rw [n0] at hN
    have hte : Idn.tyErr (s.types.take k) s.types[k] = 5 := by unfold Idn.tyErr; rw [n0]; rfl
    have HF : Hid (r = 5) := by show _ = _; rw [hR.out, hstep.1 (by rw [hte]; decide), hte]; rfl
    clear hstep hte n0
    go_wp2_with (go_at_call 84; refine (hN _).mono ?_; rintro e w' ⟨rfl, rfl⟩)
    go_ret
    exact ⟨ret_int (by rw [HF.out]), hbW.trans ((hb.alloc hb.size _).mono hbW.size)⟩
   rw [n0] at hN
   have q0 := fun (W1 W' : World) (hb1 : Below wr.heap.size wr W1) (hb : Below W1.heap.size W1 W') => r_typeAt_any _ _ (B s.types[k].name) W' (SlV.take (TypesV.mono' hT hbW (hb0.trans (hb1.mono hb0.size)) hb) k (by omega)) (TSm.take hs.1 k) (by rw [Idn.size_B]; omega)
   rw [Idn.L_B] at q0
   have hkc : (k : Int) ≤ (ca : Int) := by omega
   have hk0 : (0 : Int) ≤ (k : Int) := by omega
   go_wp2_with (go_at_call 84; refine (hN _).mono ?_; rintro e w' ⟨rfl, rfl⟩)
   with_reducible refine gen1 (R := fun W => Code.wp Tryz.prog _ _ _ W) ?_
   intro W1 hbW1 hszW1 hc1 _
   have d0 := hc1 0 _ rfl
   have d1 := hc1 1 _ rfl
   have d2 := hc1 2 _ rfl
   clear hc1 c0 c1 c2 hN
   replace b0 := cell_later hbW1 b0
   replace b1 := cell_later hbW1 b1
   have k0 := cell_regrown b0
   have m0 := cell_regrown d0
   cases n1 : Idn.ixT (s.types.take k) s.types[k].name with
   | some j =>
    have hte : Idn.tyErr (s.types.take k) s.types[k] = 7 := by unfold Idn.tyErr; rw [n0, n1]; rfl
    have HF : Hid (r = 7) := by show _ = _; rw [hR.out, hstep.1 (by rw [hte]; decide), hte]; rfl
    have q1 := cq (fun W' hb => n1 ▸ q0 W1 W' hbW1 hb)
    have hj : decide ((0 : Int) ≤ Idn.optI (some j)) = true := decide_eq_true (by simp only [Idn.optI]; omega)
    clear hstep hte n0 n1 q0
    refine wp_region_quiet_below (by kernel_rfl) (by kernel_rfl) ?_
    repeat (first | go_big_quiet_step ((go_at_call 126; exact q1 _ _)) | quiet_step ((go_at_call 126; exact q1 _ _)))
    refine wpQuiet_nil ?_
    intro _ hw'
    obtain ⟨⟨dq, osq⟩, hw''⟩ := hw'
    subst hw''
    have hb2 := below_regrown W1 dq osq
    generalize grow (redrawn W1 dq) osq = W2 at hb2 ⊢
    go_wp2
    go_ret
    exact ⟨ret_int (by rw [HF.out]), hbW.trans ((hb.trans ((hbW1.trans (hb2.mono hbW1.size)).mono hb.size)).mono hbW.size)⟩
   | none =>
    have q1 := cq (fun W' hb => n1 ▸ q0 W1 W' hbW1 hb)
    have hj : decide ((0 : Int) ≤ Idn.optI none) = false := rfl
    clear q0
    by_cases n2 : s.types[k].syn < 1
    ·have hte : Idn.tyErr (s.types.take k) s.types[k] = 8 := by unfold Idn.tyErr; rw [n0, n1, decide_eq_true n2]; rfl
     have HF : Hid (r = 8) := by show _ = _; rw [hR.out, hstep.1 (by rw [hte]; decide), hte]; rfl
     clear hstep hte n0 n1
     refine wp_region_quiet_below (by kernel_rfl) (by kernel_rfl) ?_
     repeat (first | go_big_quiet_step ((go_at_call 126; exact q1 _ _)) | quiet_step ((go_at_call 126; exact q1 _ _)))
     refine wpQuiet_nil ?_
     intro _ hw'
     obtain ⟨⟨dq, osq⟩, hw''⟩ := hw'
     subst hw''
     have hb2 := below_regrown W1 dq osq
     generalize grow (redrawn W1 dq) osq = W2 at hb2 ⊢
     replace d1 := cell_later hb2 d1
     go_wp2
     go_ret
     exact ⟨ret_int (by rw [HF.out]), hbW.trans ((hb.trans ((hbW1.trans (hb2.mono hbW1.size)).mono hb.size)).mono hbW.size)⟩
    by_cases n3 : 5 < s.types[k].syn
    ·have hte : Idn.tyErr (s.types.take k) s.types[k] = 8 := by unfold Idn.tyErr; rw [n0, n1, decide_eq_false n2, decide_eq_true n3]; rfl
     have HF : Hid (r = 8) := by show _ = _; rw [hR.out, hstep.1 (by rw [hte]; decide), hte]; rfl
     have n2' : (1 : Int) ≤ s.types[k].syn := by omega
     clear hstep hte n0 n1 n2
     refine wp_region_quiet_below (by kernel_rfl) (by kernel_rfl) ?_
     repeat (first | go_big_quiet_step ((go_at_call 126; exact q1 _ _)) | quiet_step ((go_at_call 126; exact q1 _ _)))
     refine wpQuiet_nil ?_
     intro _ hw'
     obtain ⟨⟨dq, osq⟩, hw''⟩ := hw'
     subst hw''
     have hb2 := below_regrown W1 dq osq
     generalize grow (redrawn W1 dq) osq = W2 at hb2 ⊢
     replace d1 := cell_later hb2 d1
     go_wp2
     go_ret
     exact ⟨ret_int (by rw [HF.out]), hbW.trans ((hb.trans ((hbW1.trans (hb2.mono hbW1.size)).mono hb.size)).mono hbW.size)⟩
    have hte : Idn.tyErr (s.types.take k) s.types[k] = 0 := by unfold Idn.tyErr; rw [n0, n1, decide_eq_false n2, decide_eq_false n3]; rfl
    have HF : Hid (Idn.tysErr [] s.types = Idn.tysErr (s.types.take (k + 1)) (s.types.drop (k + 1))) := hstep.2 hte
    have n2' : (1 : Int) ≤ s.types[k].syn := by omega
    have n3' : s.types[k].syn ≤ 5 := by omega
    clear hstep hte n0 n1 n2 n3
    refine wp_region_quiet_below (by kernel_rfl) (by kernel_rfl) ?_
    repeat (first | go_big_quiet_step ((go_at_call 126; exact q1 _ _)) | quiet_step ((go_at_call 126; exact q1 _ _)))
    refine wpQuiet_nil ?_
    intro _ hw'
    obtain ⟨⟨dq, osq⟩, hw''⟩ := hw'
    subst hw''
    have hb2 := below_regrown W1 dq osq
    generalize grow (redrawn W1 dq) osq = W2 at hb2 ⊢
    replace d1 := cell_later hb2 d1
    go_wp2
    go_roundw
    case rel => exact ⟨k + 1, by omega, by go_num, hb.trans ((hbW1.trans (hb2.mono hbW1.size)).mono hb.size), HF⟩
    case measure => simp [intOf]; omega
  ·have hA : Hid (Idn.tysErr [] s.types = 0) := by show _ = _; rw [hinv.out, List.drop_eq_nil_of_le (by omega)]; rfl
   have hmx : ¬ ((k : Int) < (s.types.length : Int)) := by omega
   have hR2 : Hid (r = if Idn.clsErr s.types [] s.classes != 0 then Idn.clsErr s.types [] s.classes else Idn.mainErr s.types) := by
    show _ = _; rw [hR.out, hA.out]; rfl
   clear hinv hlt hR hA
   obtain ⟨W5, hW5⟩ : ∃ W5, W5 = wr := ⟨_, rfl⟩
   subst hW5
   go_wp2
   clear hmx
   go_loopw [5] (fun i wr => ∃ k : Nat, k ≤ s.classes.length ∧ i = .int .i64 k ∧ Below W5.heap.size W5 wr ∧ Hid (Idn.clsErr s.types [] s.classes = Idn.clsErr s.types (s.classes.take k) (s.classes.drop k))) (fun i _ => s.classes.length - (intOf i).toNat)
   case atStart => exact ⟨0, Nat.zero_le _, rfl, Below.refl _ _, by show _ = _; simp⟩
   case round =>
    obtain ⟨k, hk, rfl, hb5, hinv⟩ := hrel
    have hb := hb0.trans (hb5.mono hb0.size)
    replace b0 := cell_later hb5 b0
    replace b1 := cell_later hb5 b1
    by_cases hlt : k < s.classes.length
    ·have hltI : (k : Int) < (s.classes.length : Int) := by omega
     have hK := r_class_any _ s k wr (hSW wr hb) hs hlt
     have hstep := Idn.cls_step s.types s.classes k hlt _ hinv.out
     clear hinv
     by_cases he : Idn.clErr s.types (s.classes.take k) s.classes[k] = 0
     ·have HF : Hid (Idn.clsErr s.types [] s.classes = Idn.clsErr s.types (s.classes.take (k + 1)) (s.classes.drop (k + 1))) := hstep.2 he
      rw [he] at hK
      clear hstep he
      go_wp2_with (go_at_call 127; refine hK.mono ?_; rintro e w' ⟨rfl, hb6⟩)
      go_roundw
      case rel => exact ⟨k + 1, by omega, by go_num, hb5.trans (hb6.mono hb5.size), HF⟩
      case measure => simp [intOf]; omega
     ·have h0 := hstep.1 he
      have HF : Hid (r = Idn.clErr s.types (s.classes.take k) s.classes[k]) := by show _ = _; rw [hR2.out, h0, if_pos (by simpa using he)]
      clear hstep h0
      generalize Idn.clErr s.types (s.classes.take k) s.classes[k] = x at *
      have he1 : (x == 0) = false := by simpa using he
      have he2 : (x != 0) = true := by simpa using he
      go_wp2_with (go_at_call 127; refine hK.mono ?_; rintro e w' ⟨rfl, hb6⟩)
      go_ret
      exact ⟨ret_int (by rw [HF.out]), hbW.trans ((hb.trans (hb6.mono hb.size)).mono hbW.size)⟩
    ·have hA : Hid (r = Idn.mainErr s.types) := by show _ = _; rw [hR2.out, hinv.out, List.drop_eq_nil_of_le (by omega)]; rfl
     have hmx : ¬ ((k : Int) < (s.classes.length : Int)) := by omega
     have hT6 := r_typeAt_any _ _ (⟨#[99, 108, 97, 115, 115]⟩ : ByteArray) wr (hTW wr hb) hs.1 (by decide)
     have hTY := hTW wr hb
     have ec : L ⟨#[99, 108, 97, 115, 115]⟩ = Idn.mainN := by decide
     rw [ec] at hT6
     clear hinv hlt ec
     cases hx : Idn.ixT s.types Idn.mainN with
     | none =>
      have HF : Hid (r = 6) := by show _ = _; rw [hA.out, Idn.mainErr, hx]
      rw [hx] at hT6
      clear hx
      have hI : decide (Idn.optI none < (0 : Int)) = true := rfl
      go_wp2_with (go_at_call 126; refine hT6.mono ?_; rintro e w' ⟨rfl, hb6⟩)
      go_ret
      exact ⟨ret_int (by rw [HF.out]), hbW.trans ((hb.trans (hb6.mono hb.size)).mono hbW.size)⟩
     | some j =>
      have hjl := Idn.ixT_lt _ _ _ hx
      obtain ⟨b, off, rfl, hbl, c0, c1, c2⟩ := TypesV.cell hTY hjl
      have HF : Hid (r = if s.types[j].syn != 1 then 8 else 0) := by show _ = _; rw [hA.out, Idn.mainErr, hx]; simp only [List.getElem?_eq_getElem hjl]
      rw [hx] at hT6
      clear hx
      simp only [Idn.optI] at hT6
      have hI : decide ((j : Int) < (0 : Int)) = false := decide_eq_false (by omega)
      have hjI : (j : Int) < (s.types.length : Int) := by omega
      by_cases he : s.types[j].syn = 1
      ·have he1 : (s.types[j].syn == 1) = true := by simpa using he
       have HG : Hid (r = 0) := by show _ = _; rw [HF.out, he]; rfl
       clear HF
       go_wp2_with (go_at_call 126; refine hT6.mono ?_; rintro e w' ⟨rfl, hb6⟩; replace b0 := cell_later hb6 b0; replace c1 := cell_later hb6 c1)
       go_ret
       exact ⟨ret_int (by rw [HG.out]), hbW.trans ((hb.trans (hb6.mono hb.size)).mono hbW.size)⟩
      ·have he1 : (s.types[j].syn == 1) = false := by simpa using he
       have HG : Hid (r = 8) := by show _ = _; rw [HF.out, if_pos (by simpa using he)]
       clear HF
       go_wp2_with (go_at_call 126; refine hT6.mono ?_; rintro e w' ⟨rfl, hb6⟩; replace b0 := cell_later hb6 b0; replace c1 := cell_later hb6 c1)
       go_ret
       exact ⟨ret_int (by rw [HG.out]), hbW.trans ((hb.trans (hb6.mono hb.size)).mono hbW.size)⟩
end Go.Proofs.YtbkkchhimhlhcaaGreatDoor
