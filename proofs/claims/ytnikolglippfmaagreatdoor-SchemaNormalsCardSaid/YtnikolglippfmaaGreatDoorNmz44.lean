/- Part 44 of the proof that Normal and Compare return the specified results: the package variables hold what the program lays; nothing else is asked. -/
import Derived.Test.YtnikolglippfmaaGreatDoorNmz11
import Derived.Test.YtnikolglippfmaaGreatDoorNmz12
import Derived.Test.YtnikolglippfmaaGreatDoorNmz15
import Derived.Test.YtnikolglippfmaaGreatDoorNmz38
import Derived.Test.YtnikolglippfmaaGreatDoorNmz42
import Derived.Test.YtnikolglippfmaaGreatDoorNmz43
/- law07: SchemaChecks, walked. -/
namespace Go.Proofs.YtnikolglippfmaaGreatDoor
open Go.RowKit Go.Sort
open Idn (L B Bs drop_L take_L size_L)
/-- lengths that a slice or a string can have -/
def SLen (s : Idn.Sch) : Prop := s.types.length ≤ 9223372036854775807 ∧ s.classes.length ≤ 9223372036854775807 ∧ ∀ c ∈ s.classes, c.must.length ≤ 9223372036854775807 ∧ c.may.length ≤ 9223372036854775807
theorem short_sm {l : List Bs} (h : short l = true) : Sm l := by
  unfold short at h
  simp only [Bool.and_eq_true, List.all_eq_true, decide_eq_true_eq] at h
  exact ⟨by omega, fun x hx => by have := h.1 x hx; omega⟩
theorem few_ssm {s : Idn.Sch} (h : few s = true) : SSm s := by
  unfold few at h
  simp only [Bool.and_eq_true, List.all_eq_true, decide_eq_true_eq] at h
  obtain ⟨h1, h2, h3, h4⟩ := h
  refine ⟨⟨by omega, fun t ht => by have := h1 t ht; omega⟩, ⟨by omega, fun c hc => ?_⟩⟩
  have h5 := h2 c hc
  unfold fewC at h5
  simp only [Bool.and_eq_true, decide_eq_true_eq] at h5
  exact ⟨by omega, by omega, short_sm h5.2.2.1, short_sm h5.2.2.2⟩
end Go.Proofs.YtnikolglippfmaaGreatDoor
/- identityref07: form. -/
namespace Go.Proofs.YtnikolglippfmaaGreatDoor
open Go.RowKit Go.Sort
open Idn (L B Bs drop_L take_L size_L)
theorem read2_range (l : Bs) : -9223372036854775808 ≤ (Idn.read2 l).1 ∧ (Idn.read2 l).1 ≤ 9223372036854775807 := by
  unfold Idn.read2
  repeat' split
  all_goals (try dsimp only)
  all_goals omega
theorem number2_range (l : Bs) : -9223372036854775808 ≤ (Idn.number2 l).1 ∧ (Idn.number2 l).1 ≤ 9223372036854775807 := by
  unfold Idn.number2
  split
  · exact ⟨by decide, by decide⟩
  · exact read2_range _
set_option maxHeartbeats 1000000 in
set_option maxRecDepth 100000 in
theorem r7_form_any (x : Int) (h1 : 1 ≤ x) (h5 : x ≤ 5) (v : ByteArray) (w : World) (hs : v.size ≤ 999999999) :
    Calls Tryz.prog 39 #[.int .i64 x, .string v] w fun e w' => e = .returned (.tuple #[.string (B (form2 x (L v)).1), .bool (form2 x (L v)).2]) ∧ Below w.heap.size w w' := by
  have hFo := fun W => r_fold_any v W (by omega)
  have hNu := fun W => r7_number_any v W hs
  have hCl := fun W => r5_Clean_any v W (by omega)
  have hLo := fun W => r_lower_any v W (by omega)
  obtain ⟨n1, n2⟩ := number2_range (L v)
  generalize hr : form2 x (L v) = r
  have HR : Hid (r = form2 x (L v)) := hr.symm
  clear hr
  unfold form2 at HR
  have hx : x = 1 ∨ x = 2 ∨ x = 3 ∨ x = 4 ∨ x = 5 := by omega
  clear h1 h5
  rcases hx with rfl | rfl | rfl | rfl | rfl
  · have HF : Hid (r = (Idn.fold (L v), true)) := HR.out
    clear HR hNu hCl hLo
    go_enter Tryz.func39, Tryz.ntmps39
    go_wp2_with fail
    refine (hFo _).mono ?_
    rintro e w1 ⟨rfl, hb1⟩
    go_wp2
    go_ret2
    exact ⟨by rw [HF.out] <;> rfl, hb1⟩
  · have HF : Hid (r = (L v, true)) := HR.out
    clear HR hNu hCl hLo hFo
    go_enter Tryz.func39, Tryz.ntmps39
    go_wp2
    go_ret2
    exact ⟨by rw [HF.out] <;> rfl, Below.refl _ _⟩
  · have HF : Hid (r = (Lib.itoa (Idn.number2 (L v)).1, (Idn.number2 (L v)).2)) := HR.out
    have hI := fun W => r_Int_any (Idn.number2 (L v)).1 n1 n2 W
    generalize Idn.number2 (L v) = q at *
    obtain ⟨n, ok⟩ := q
    dsimp only at *
    clear HR hCl hLo hFo
    go_enter Tryz.func39, Tryz.ntmps39
    go_wp2_with fail
    refine (hNu _).mono ?_
    rintro e w1 ⟨rfl, rfl⟩
    go_wp2_with fail
    refine (hI _).mono ?_
    rintro e w1 ⟨rfl, hb1⟩
    go_wp2
    go_ret2
    exact ⟨by rw [HF.out] <;> rfl, hb1⟩
  · have HF : Hid (r = ((Idn.cleanN (L v)).1, (Idn.cleanN (L v)).2 == 0)) := HR.out
    generalize Idn.cleanN (L v) = q at *
    obtain ⟨t, x⟩ := q
    dsimp only at *
    clear HR hNu hLo hFo
    go_enter Tryz.func39, Tryz.ntmps39
    go_wp2_with fail
    refine (hCl _).mono ?_
    rintro e w1 ⟨rfl, hb1⟩
    go_wp2
    go_ret2
    exact ⟨by rw [HF.out] <;> rfl, hb1⟩
  · have HF : Hid (r = if Idn.lower (L v) = tTrue then ([84, 82, 85, 69], true) else ([70, 65, 76, 83, 69], Idn.lower (L v) == tFalse)) := HR.out
    have hway : (((B (Idn.lower (L v))).toList == ([116, 114, 117, 101] : List UInt8)) = true ∧ Hid (r = ([84, 82, 85, 69], true))) ∨ (((B (Idn.lower (L v))).toList == ([116, 114, 117, 101] : List UInt8)) = false ∧ ∃ b : Bool, ((B (Idn.lower (L v))).toList == ([102, 97, 108, 115, 101] : List UInt8)) = b ∧ Hid (r = ([70, 65, 76, 83, 69], b))) := by
      by_cases h : Idn.lower (L v) = tTrue
      · exact .inl ⟨by rw [toList_L, Idn.L_B, h]; rfl, by show _ = _; rw [HF.out, if_pos h]⟩
      · exact .inr ⟨by rw [toList_L, Idn.L_B, beq_eq_false_iff_ne]; exact h, Idn.lower (L v) == tFalse, by rw [toList_L, Idn.L_B]; rfl, by show _ = _; rw [HF.out, if_neg h]⟩
    clear HF HR hNu hCl hFo
    generalize B (Idn.lower (L v)) = t at *
    rcases hway with ⟨z1, HG⟩ | ⟨z1, b, z2, HG⟩
    · go_enter Tryz.func39, Tryz.ntmps39
      go_wp2_with fail
      refine (hLo _).mono ?_
      rintro e w1 ⟨rfl, hb1⟩
      go_wp2
      go_ret2
      exact ⟨by rw [HG.out] <;> rfl, hb1⟩
    · go_enter Tryz.func39, Tryz.ntmps39
      go_wp2_with fail
      refine (hLo _).mono ?_
      rintro e w1 ⟨rfl, hb1⟩
      go_wp2_with fail
      refine (hLo _).mono ?_
      rintro e w2 ⟨rfl, hb2⟩
      go_wp2
      go_ret2
      exact ⟨by rw [HG.out] <;> rfl, hb1.trans (hb2.mono hb1.size)⟩
end Go.Proofs.YtnikolglippfmaaGreatDoor
/- identityref07: Normal, Compare. -/
namespace Go.Proofs.YtnikolglippfmaaGreatDoor
open Go.RowKit Go.Sort
open Idn (L B Bs drop_L take_L size_L)
set_option maxHeartbeats 2000000 in
set_option maxRecDepth 100000 in
theorem r_Normal_any (u : Value) (s : Idn.Sch) (n v : ByteArray) (w : World) (hu : SchV w w.heap.size u s) (hs : SSm s) (hn : n.size ≤ 1000000000) (hv : v.size ≤ 100000000) :
    Calls Tryz.prog 11 #[u, .string n, .string v] w fun e w' => e = .returned (.tuple #[.string (B (sNorm s (L n) (L v)).1), .int .i64 (sNorm s (L n) (L v)).2]) ∧ Below w.heap.size w w' := by
  have hT := fun W (hW : Below w.heap.size w W) => r_type_any u s n W (SchV.mono (SchV.keep hu hW) hW.size) hs hn
  have hC1 := fun W => r_clean_any v W (by omega)
  obtain ⟨a, b, rfl, hT0, hC0⟩ := hu
  obtain ⟨A, ca, rfl, hca⟩ := SlV.shape hT0
  obtain ⟨A', cb, rfl, hcb⟩ := SlV.shape hC0
  clear hT0 hC0
  have hsy := fun h => syn_range (s := s) (n := L n) h
  rw [← rNorm_eq]
  generalize hr : rNorm s (L n) (L v) = r
  have HR : Hid (r = rNorm s (L n) (L v)) := hr.symm
  clear hr
  unfold rNorm at HR
  generalize tyLook (sound s) (L n) = tl at *
  obtain ⟨⟨tn, ty, ts⟩, ok⟩ := tl
  unfold tyV at hT
  dsimp only [sv] at *
  cases ok
  · have HF : Hid (r = ([], 6)) := by show _ = _; rw [HR.out, if_pos rfl]
    clear HR hsy hC1
    go_enter Tryz.func11, Tryz.ntmps11
    go_wp2_with fail
    with_reducible refine gen1 (R := fun W => Calls Tryz.prog 37 _ W _) ?_
    intro W hbW hszW _ _
    refine (hT W hbW).mono ?_
    rintro e w1 ⟨rfl, hb1⟩
    have hbw1 := hbW.trans (hb1.mono hbW.size)
    clear hT
    go_wp2
    go_ret2
    exact ⟨by rw [HF.out] <;> rfl, hbw1.alloc hbw1.size _⟩
  · obtain ⟨y1, y5⟩ := hsy rfl
    have hFm := fun W => r7_form_any ty y1 y5 v W (by omega)
    have hF2 := form2_eq y1 y5 (L v)
    have hlen := length_norm ty (L v) (by rw [← size_L]; omega)
    have hfl : (form2 ty (L v)).2 = true → (form2 ty (L v)).1.length ≤ 1000000000 := fun h => by rw [hF2.2 (by rw [← hF2.1]; exact h)]; exact hlen
    clear hF2 hlen hsy
    generalize form2 ty (L v) = f at *
    obtain ⟨f1, f2⟩ := f
    dsimp only at *
    cases hcl : Idn.clean (L v)
    · rw [hcl] at hC1 HR
      have HF : Hid (r = ([], 8)) := by show _ = _; rw [HR.out, if_neg (by decide), if_pos rfl]
      clear HR hfl hFm hcl
      go_enter Tryz.func11, Tryz.ntmps11
      go_wp2_with fail
      with_reducible refine gen1 (R := fun W => Calls Tryz.prog 37 _ W _) ?_
      intro W hbW hszW _ _
      refine (hT W hbW).mono ?_
      rintro e w1 ⟨rfl, hb1⟩
      have hbw1 := hbW.trans (hb1.mono hbW.size)
      clear hT hszW
      go_upto_region 2 with fail
      with_reducible refine gen1 (R := fun W => Code.wp Tryz.prog _ _ _ W) ?_
      intro W4 hbW4 hszW4 hc4 _
      have p1 : W4.cell? ⟨w1.heap.size, 1, none⟩ = some (.int .i64 ty) := hc4 1 _ rfl
      have hbw4 := hbw1.trans (hbW4.mono hbw1.size)
      clear hc4 hszW4
      go_wp2_with fail
      refine (hC1 W4).mono ?_
      rintro e w5 ⟨rfl, rfl⟩
      clear hC1
      go_wp2
      go_ret2
      exact ⟨by rw [HF.out] <;> rfl, hbw4⟩
    · rw [hcl] at hC1 HR
      clear hcl
      cases f2
      · have HF : Hid (r = ([], 8)) := by show _ = _; rw [HR.out, if_neg (by decide), if_neg (by decide), if_pos (by simp)]
        clear HR hfl
        go_enter Tryz.func11, Tryz.ntmps11
        go_wp2_with fail
        with_reducible refine gen1 (R := fun W => Calls Tryz.prog 37 _ W _) ?_
        intro W hbW hszW _ _
        refine (hT W hbW).mono ?_
        rintro e w1 ⟨rfl, hb1⟩
        have hbw1 := hbW.trans (hb1.mono hbW.size)
        clear hT hszW
        go_upto_region 2 with fail
        with_reducible refine gen1 (R := fun W => Code.wp Tryz.prog _ _ _ W) ?_
        intro W4 hbW4 hszW4 hc4 _
        have p1 : W4.cell? ⟨w1.heap.size, 1, none⟩ = some (.int .i64 ty) := hc4 1 _ rfl
        have hbw4 := hbw1.trans (hbW4.mono hbw1.size)
        clear hc4 hszW4
        go_wp2_with fail
        refine (hC1 W4).mono ?_
        rintro e w5 ⟨rfl, rfl⟩
        clear hC1
        go_wp2_with fail
        refine (hFm W4).mono ?_
        rintro e w6 ⟨rfl, hb6⟩
        have hbw6 := hbw4.trans (hb6.mono hbw4.size)
        clear hFm
        go_wp2
        go_ret2
        exact ⟨by rw [HF.out] <;> rfl, hbw6⟩
      · have hC2 := fun W => r_clean_any (B f1) W (by have := hfl rfl; rw [Idn.size_B]; omega)
        rw [Idn.L_B] at hC2
        have HF : Hid (r = if Idn.clean f1 = false then ([], 8) else (f1, 0)) := by
          show _ = _
          rw [HR.out, if_neg (by decide), if_neg (by decide)]
          cases Idn.clean f1 <;> rfl
        clear HR hfl
        cases hcf : Idn.clean f1
        all_goals
          rw [hcf] at hC2 HF
          clear hcf
          go_enter Tryz.func11, Tryz.ntmps11
          go_wp2_with fail
          with_reducible refine gen1 (R := fun W => Calls Tryz.prog 37 _ W _) ?_
          intro W hbW hszW _ _
          refine (hT W hbW).mono ?_
          rintro e w1 ⟨rfl, hb1⟩
          have hbw1 := hbW.trans (hb1.mono hbW.size)
          clear hT hszW
          go_upto_region 2 with fail
          with_reducible refine gen1 (R := fun W => Code.wp Tryz.prog _ _ _ W) ?_
          intro W4 hbW4 hszW4 hc4 _
          have p1 : W4.cell? ⟨w1.heap.size, 1, none⟩ = some (.int .i64 ty) := hc4 1 _ rfl
          have hbw4 := hbw1.trans (hbW4.mono hbw1.size)
          clear hc4 hszW4
          go_wp2_with fail
          refine (hC1 W4).mono ?_
          rintro e w5 ⟨rfl, rfl⟩
          clear hC1
          go_wp2_with fail
          refine (hFm W4).mono ?_
          rintro e w6 ⟨rfl, hb6⟩
          have hbw6 := hbw4.trans (hb6.mono hbw4.size)
          clear hFm
          go_wp2_with fail
          refine (hC2 _).mono ?_
          rintro e w7 ⟨rfl, rfl⟩
          go_wp2
          go_ret2
          exact ⟨by rw [HF.out] <;> rfl, hbw6⟩
theorem sNorm_len (s : Idn.Sch) (n v : Bs) (h : v.length ≤ 100000000) : (sNorm s n v).1.length ≤ 1000000000 := kNorm_len (sound s) n v h
theorem sNorm_int {s : Idn.Sch} {n v : Bs} (h : (sNorm s n v).2 = 0) (hx : (tyLook (sound s) n).1.syn = 3) : (sNorm s n v).1.length ≤ 21 := by
  obtain ⟨_, h2, _⟩ := sNorm_ok (Prod.ext rfl h : sNorm s n v = ((sNorm s n v).1, 0))
  rw [hx] at h2
  obtain ⟨h3, _⟩ := normV_parts h2
  have h4 : Idn.integer v = ((sNorm s n v).1, true) := h3
  obtain ⟨k, k1, k2, k3⟩ := integer_form (v := v) (by rw [h4])
  rw [h4] at k3
  dsimp only at k3
  rw [k3]
  exact Lib.itoa_length_le _ k1 k2
set_option maxHeartbeats 2000000 in
set_option maxRecDepth 100000 in
theorem r_Compare_any (u : Value) (s : Idn.Sch) (n v1 v2 : ByteArray) (w : World) (hu : SchV w w.heap.size u s) (hs : SSm s) (hn : n.size ≤ 1000000000) (hv1 : v1.size ≤ 100000000) (hv2 : v2.size ≤ 100000000) :
    Calls Tryz.prog 13 #[u, .string n, .string v1, .string v2] w fun e w' => e = .returned (.tuple #[.int .i64 (sComp s (L n) (L v1) (L v2)).1, .int .i64 (sComp s (L n) (L v1) (L v2)).2]) ∧ Below w.heap.size w w' := by
  have hV := fun W (hW : Below w.heap.size w W) => SchV.mono (SchV.keep hu hW) hW.size
  have k1 := fun W (hW : Below w.heap.size w W) => r_Normal_any u s n v1 W (hV W hW) hs hn hv1
  have k2 := fun W (hW : Below w.heap.size w W) => r_Normal_any u s n v2 W (hV W hW) hs hn hv2
  have kT := fun W (hW : Below w.heap.size w W) => r_type_any u s n W (hV W hW) hs hn
  obtain ⟨a, b, rfl, hT0, hC0⟩ := hu
  obtain ⟨A, ca, rfl, hca⟩ := SlV.shape hT0
  obtain ⟨A', cb, rfl, hcb⟩ := SlV.shape hC0
  clear hT0 hC0 hV
  have hl1 := sNorm_len s (L n) (L v1) (by have := size_L v1; omega)
  have hl2 := sNorm_len s (L n) (L v2) (by have := size_L v2; omega)
  have hi1 := fun h1 h2 => sNorm_int (s := s) (n := L n) (v := L v1) h1 h2
  have hi2 := fun h1 h2 => sNorm_int (s := s) (n := L n) (v := L v2) h1 h2
  rw [← rComp_eq]
  generalize hr : rComp s (L n) (L v1) (L v2) = r
  have HR : Hid (r = rComp s (L n) (L v1) (L v2)) := hr.symm
  clear hr
  unfold rComp at HR
  generalize sNorm s (L n) (L v1) = na at *
  generalize sNorm s (L n) (L v2) = nb at *
  generalize tyLook (sound s) (L n) = tl at *
  obtain ⟨a, ea⟩ := na
  obtain ⟨b, eb⟩ := nb
  obtain ⟨⟨tn, ty, ts⟩, ok⟩ := tl
  unfold tyV at kT
  dsimp only [sv] at *
  by_cases hea : ea = 0
  case neg =>
    have HF : Hid (r = (0, ea)) := by show _ = _; rw [HR.out, if_pos hea]
    have e1 : (ea == 0) = false := by simpa using hea
    have e2 : (ea != 0) = true := by simpa using hea
    clear HR hea hi1 hi2 k2 kT
    go_enter Tryz.func13, Tryz.ntmps13
    go_wp2_with fail
    with_reducible refine gen1 (R := fun W => Calls Tryz.prog 11 _ W _) ?_
    intro W hbW hszW _ _
    refine (k1 W hbW).mono ?_
    rintro e w1 ⟨rfl, hb1⟩
    have hbw1 := hbW.trans (hb1.mono hbW.size)
    clear k1
    go_wp2
    go_ret2
    exact ⟨by rw [HF.out] <;> rfl, hbw1⟩
  subst hea
  by_cases heb : eb = 0
  case neg =>
    have HF : Hid (r = (0, eb)) := by show _ = _; rw [HR.out, if_neg (by decide), if_pos heb]
    have e1 : (eb == 0) = false := by simpa using heb
    have e2 : (eb != 0) = true := by simpa using heb
    clear HR heb hi1 hi2 kT
    go_enter Tryz.func13, Tryz.ntmps13
    go_wp2_with fail
    with_reducible refine gen1 (R := fun W => Calls Tryz.prog 11 _ W _) ?_
    intro W hbW hszW hc0 _
    have q0 := hc0 0 _ rfl
    have q1 := hc0 1 _ rfl
    refine (k1 W hbW).mono ?_
    rintro e w1 ⟨rfl, hb1⟩
    replace q0 := cell_later hb1 q0
    replace q1 := cell_later hb1 q1
    have hbw1 := hbW.trans (hb1.mono hbW.size)
    clear k1 hc0
    go_wp2_with fail
    refine (k2 w1 hbw1).mono ?_
    rintro e w2 ⟨rfl, hb2⟩
    have hbw2 := hbw1.trans (hb2.mono hbw1.size)
    clear k2
    go_wp2
    go_ret2
    exact ⟨by rw [HF.out] <;> rfl, hbw2⟩
  subst heb
  have HF0 : Hid (r = if ty = 4 then (cmpNm a b, 0) else if ty = 3 then (Lib.compareInt (Idn.number2 a).1 (Idn.number2 b).1, 0) else (cmpB a b, 0)) := by show _ = _; rw [HR.out, if_neg (by decide), if_neg (by decide)]
  have kC := fun W => r5_Compare_any (B a) (B b) W (by rw [Idn.size_B]; omega) (by rw [Idn.size_B]; omega)
  have kO := fun W => r_Order_any (B a) (B b) W
  rw [Idn.L_B, Idn.L_B] at kC kO
  clear HR
  go_enter Tryz.func13, Tryz.ntmps13
  go_wp2_with fail
  with_reducible refine gen1 (R := fun W => Calls Tryz.prog 11 _ W _) ?_
  intro W hbW hszW hc0 _
  have q0 := hc0 0 _ rfl
  have q1 := hc0 1 _ rfl
  refine (k1 W hbW).mono ?_
  rintro e w1 ⟨rfl, hb1⟩
  replace q0 := cell_later hb1 q0
  replace q1 := cell_later hb1 q1
  have hbw1 := hbW.trans (hb1.mono hbW.size)
  clear k1 hc0
  go_wp2_with fail
  refine (k2 w1 hbw1).mono ?_
  rintro e w2 ⟨rfl, hb2⟩
  replace q0 := cell_later hb2 q0
  replace q1 := cell_later hb2 q1
  have hbw2 := hbw1.trans (hb2.mono hbw1.size)
  clear k2
  go_wp2_with fail
  refine (kT w2 hbw2).mono ?_
  rintro e w3 ⟨rfl, hb3⟩
  have hbw3 := hbw2.trans (hb3.mono hbw2.size)
  clear kT q0 q1 hb1 hb2 hb3
  go_upto_region 8 with fail
  with_reducible refine gen1 (R := fun W => Code.wp Tryz.prog _ _ _ W) ?_
  intro W4 hbW4 hszW4 hc4 _
  have p1 : W4.cell? ⟨w3.heap.size, 1, none⟩ = some (.int .i64 ty) := hc4 1 _ rfl
  have hbw4 := hbw3.trans (hbW4.mono hbw3.size)
  clear hc4 hszW4 hbW4
  by_cases h4 : ty = 4
  · have HF : Hid (r = (cmpNm a b, 0)) := by show _ = _; rw [HF0.out, if_pos h4]
    have e4 : (ty == 4) = true := by simpa using h4
    generalize cmpNm a b = cn at *
    clear HF0 h4 hi1 hi2 kO
    go_wp2_with fail
    refine (kC W4).mono ?_
    rintro e w5 ⟨rfl, hb5⟩
    go_wp2
    go_ret2
    exact ⟨by rw [HF.out] <;> rfl, hbw4.trans (hb5.mono hbw4.size)⟩
  have e4 : (ty == 4) = false := by simpa using h4
  by_cases h3 : ty = 3
  · have HF : Hid (r = (Lib.compareInt (Idn.number2 a).1 (Idn.number2 b).1, 0)) := by show _ = _; rw [HF0.out, if_neg h4, if_pos h3]
    have e3 : (ty == 3) = true := by simpa using h3
    have h21 := hi1 (by first | rfl | trivial) h3
    have h22 := hi2 (by first | rfl | trivial) h3
    have kN1 := fun W => r7_number_any (B a) W (by rw [Idn.size_B]; omega)
    have kN2 := fun W => r7_number_any (B b) W (by rw [Idn.size_B]; omega)
    rw [Idn.L_B] at kN1 kN2
    generalize Idn.number2 a = x1 at *
    generalize Idn.number2 b = x2 at *
    obtain ⟨x1, y1⟩ := x1
    obtain ⟨x2, y2⟩ := x2
    dsimp only at kN1 kN2 HF
    clear HF0 h4 h3 hi1 hi2 kO kC
    rcases Int.lt_trichotomy x1 x2 with hc | hc | hc
    · have HG : Hid (r = (-1, 0)) := by show _ = _; rw [HF.out, Lib.compareInt, if_pos hc]
      clear HF
      go_wp2_with fail
      refine (kN1 W4).mono ?_
      rintro e w5 ⟨rfl, rfl⟩
      go_wp2_with fail
      refine (kN2 W4).mono ?_
      rintro e w6 ⟨rfl, rfl⟩
      go_wp2
      go_ret2
      exact ⟨by rw [HG.out] <;> rfl, hbw4⟩
    · have n1 : ¬ x1 < x2 := by omega
      have n2 : ¬ x2 < x1 := by omega
      have HG : Hid (r = (0, 0)) := by show _ = _; rw [HF.out, Lib.compareInt, if_neg n1, if_neg n2]
      clear HF hc
      go_wp2_with fail
      refine (kN1 W4).mono ?_
      rintro e w5 ⟨rfl, rfl⟩
      go_wp2_with fail
      refine (kN2 W4).mono ?_
      rintro e w6 ⟨rfl, rfl⟩
      go_wp2
      go_ret2
      exact ⟨by rw [HG.out] <;> rfl, hbw4⟩
    · have n1 : ¬ x1 < x2 := by omega
      have HG : Hid (r = (1, 0)) := by show _ = _; rw [HF.out, Lib.compareInt, if_neg n1, if_pos hc]
      clear HF
      go_wp2_with fail
      refine (kN1 W4).mono ?_
      rintro e w5 ⟨rfl, rfl⟩
      go_wp2_with fail
      refine (kN2 W4).mono ?_
      rintro e w6 ⟨rfl, rfl⟩
      go_wp2
      go_ret2
      exact ⟨by rw [HG.out] <;> rfl, hbw4⟩
  · have HF : Hid (r = (cmpB a b, 0)) := by show _ = _; rw [HF0.out, if_neg h4, if_neg h3]
    have e3 : (ty == 3) = false := by simpa using h3
    generalize cmpB a b = cn at *
    clear HF0 h4 h3 hi1 hi2 kC
    go_wp2_with fail
    refine (kO W4).mono ?_
    rintro e w5 ⟨rfl, rfl⟩
    go_wp2
    go_ret2
    exact ⟨by rw [HF.out] <;> rfl, hbw4⟩
end Go.Proofs.YtnikolglippfmaaGreatDoor
/- law07: SchemaNormals, walked. -/
namespace Go.Proofs.YtnikolglippfmaaGreatDoor
open Go.RowKit Go.Sort
open Idn (L B Bs drop_L take_L size_L)
set_option maxHeartbeats 4000000 in
set_option maxRecDepth 100000 in
theorem schemaNormals_any (v : Value) (s : Idn.Sch) (n A B1 C : ByteArray) (w : World) (hv : SchV w w.heap.size v s) (hl : SLen s) (hn : n.size ≤ 9223372036854775807) (hA : A.size ≤ 9223372036854775807) (hB : B1.size ≤ 9223372036854775807) (hC : C.size ≤ 9223372036854775807) (hE : Env w) (hU : EnvU w) :
    Calls Tryz.prog 3 #[v, .agg #[.string n, .string A, .string B1, .string C]] w fun e w' => e = .returned (.bool true) ∧ Below w.heap.size w w' := by
  have hF := fun W (hW : Below w.heap.size w W) => few_any v s W (SchV.mono (SchV.keep hv hW) hW.size) hl.1 hl.2.1 hl.2.2
  have hAl := fun W (hW : Below w.heap.size w W) => alive_any W (hE.keep hW) (hU.keep hW)
  have hv0 := hv
  obtain ⟨a, b, rfl, hT, hCl⟩ := hv
  obtain ⟨A', ca, rfl, hca⟩ := SlV.shape hT
  obtain ⟨A'', cb, rfl, hcb⟩ := SlV.shape hCl
  clear hT hCl
  have hsplit : few s = false ∨ (few s = true ∧ (300 : Int) < (n.size : Int)) ∨ (few s = true ∧ ¬ (300 : Int) < (n.size : Int) ∧ (300 : Int) < (A.size : Int)) ∨ (few s = true ∧ ¬ (300 : Int) < (n.size : Int) ∧ ¬ (300 : Int) < (A.size : Int) ∧ (300 : Int) < (B1.size : Int)) ∨
      (few s = true ∧ ¬ (300 : Int) < (n.size : Int) ∧ ¬ (300 : Int) < (A.size : Int) ∧ ¬ (300 : Int) < (B1.size : Int)) := by
    cases few s
    · exact .inl rfl
    · by_cases h1 : (300 : Int) < (n.size : Int)
      · exact .inr (.inl ⟨rfl, h1⟩)
      · by_cases h2 : (300 : Int) < (A.size : Int)
        · exact .inr (.inr (.inl ⟨rfl, h1, h2⟩))
        · by_cases h3 : (300 : Int) < (B1.size : Int)
          · exact .inr (.inr (.inr (.inl ⟨rfl, h1, h2, h3⟩)))
          · exact .inr (.inr (.inr (.inr ⟨rfl, h1, h2, h3⟩)))
  rcases hsplit with hf | ⟨hf, h1⟩ | ⟨hf, h1, h2⟩ | ⟨hf, h1, h2, h3⟩ | ⟨hf, h1, h2, h3⟩
  iterate 4
    · rw [hf] at hF
      clear hf
      go_enter Tryz.func3, Tryz.ntmps3
      go_wp2_with fail
      with_reducible refine gen2 (R := fun W => Calls Tryz.prog 8 _ W _) ?_
      intro W hbW hszW hc0 hc1
      have b0 : W.cell? ⟨w.heap.size + 1, 0, none⟩ = some (.string n) := hc1 0 _ rfl
      have b1 : W.cell? ⟨w.heap.size + 1, 1, none⟩ = some (.string A) := hc1 1 _ rfl
      have b2 : W.cell? ⟨w.heap.size + 1, 2, none⟩ = some (.string B1) := hc1 2 _ rfl
      refine (hF W hbW).mono ?_
      rintro e w1 ⟨rfl, hb1⟩
      replace b0 := cell_later hb1 b0
      replace b1 := cell_later hb1 b1
      replace b2 := cell_later hb1 b2
      have hb := hbW.trans (hb1.mono hbW.size)
      clear hF hc0 hc1
      go_wp2_with fail
      refine (hAl w1 hb).mono ?_
      rintro e w2 ⟨rfl, hb2⟩
      go_wp2_with fail
      go_ret
      exact ⟨rfl, hb.trans (hb2.mono hb.size)⟩
  · rw [hf] at hF
    have hs := few_ssm hf
    have hV := fun W (hW : Below w.heap.size w W) => SchV.mono (SchV.keep hv0 hW) hW.size
    have k1 := fun W (hW : Below w.heap.size w W) => schNormal_any _ s n A W (hV W hW) hs (hE.keep hW) (hU.keep hW) (by omega) (by omega)
    have k2 := fun W (hW : Below w.heap.size w W) => r_Normal_any _ s n A W (hV W hW) hs (by omega) (by omega)
    have k3 := fun W (hW : Below w.heap.size w W) => schCompare_any _ s n A B1 W (hV W hW) hs (hE.keep hW) (hU.keep hW) (by omega) (by omega) (by omega)
    have k4 := fun W (hW : Below w.heap.size w W) => r_Compare_any _ s n A B1 W (hV W hW) hs (by omega) (by omega) (by omega)
    clear hs hv0 hV hf hl
    generalize sNorm s (L n) (L A) = na at *
    generalize sComp s (L n) (L A) (L B1) = nc at *
    obtain ⟨a, ea⟩ := na
    obtain ⟨m, g⟩ := nc
    dsimp only at k1 k2 k3 k4
    have t1 : ((B a).toList == (B a).toList) = true := str_is rfl
    have t2 : (ea == ea) = true := by simp
    have t3 : (m == m) = true := by simp
    have t4 : (g == g) = true := by simp
    go_enter Tryz.func3, Tryz.ntmps3
    go_wp2_with fail
    with_reducible refine gen2 (R := fun W => Calls Tryz.prog 8 _ W _) ?_
    intro W hbW hszW hc0 hc1
    have a0 : W.cell? ⟨w.heap.size, 0, none⟩ = some (.slice A' s.types.length ca) := hc0 0 _ rfl
    have a1 : W.cell? ⟨w.heap.size, 1, none⟩ = some (.slice A'' s.classes.length cb) := hc0 1 _ rfl
    have b0 : W.cell? ⟨w.heap.size + 1, 0, none⟩ = some (.string n) := hc1 0 _ rfl
    have b1 : W.cell? ⟨w.heap.size + 1, 1, none⟩ = some (.string A) := hc1 1 _ rfl
    have b2 : W.cell? ⟨w.heap.size + 1, 2, none⟩ = some (.string B1) := hc1 2 _ rfl
    refine (hF W hbW).mono ?_
    rintro e w1 ⟨rfl, hb1⟩
    replace a0 := cell_later hb1 a0
    replace a1 := cell_later hb1 a1
    replace b0 := cell_later hb1 b0
    replace b1 := cell_later hb1 b1
    replace b2 := cell_later hb1 b2
    have hb := hbW.trans (hb1.mono hbW.size)
    clear hF hc0 hc1 hb1 hbW hszW
    go_wp2_with fail
    with_reducible refine (k1 w1 hb).mono ?_
    rintro e w2 ⟨rfl, hb2⟩
    replace a0 := cell_later hb2 a0
    replace a1 := cell_later hb2 a1
    replace b0 := cell_later hb2 b0
    replace b1 := cell_later hb2 b1
    replace b2 := cell_later hb2 b2
    replace hb := hb.trans (hb2.mono hb.size)
    clear k1 hb2
    go_wp2_with fail
    with_reducible refine (k2 w2 hb).mono ?_
    rintro e w3 ⟨rfl, hb3⟩
    replace a0 := cell_later hb3 a0
    replace a1 := cell_later hb3 a1
    replace b0 := cell_later hb3 b0
    replace b1 := cell_later hb3 b1
    replace b2 := cell_later hb3 b2
    replace hb := hb.trans (hb3.mono hb.size)
    clear k2 hb3
    go_wp2_with fail
    with_reducible refine (k3 w3 hb).mono ?_
    rintro e w4 ⟨rfl, hb4⟩
    replace a0 := cell_later hb4 a0
    replace a1 := cell_later hb4 a1
    replace b0 := cell_later hb4 b0
    replace b1 := cell_later hb4 b1
    replace b2 := cell_later hb4 b2
    replace hb := hb.trans (hb4.mono hb.size)
    clear k3 hb4
    go_wp2_with fail
    with_reducible refine (k4 w4 hb).mono ?_
    rintro e w5 ⟨rfl, hb5⟩
    replace a0 := cell_later hb5 a0
    replace a1 := cell_later hb5 a1
    replace b0 := cell_later hb5 b0
    replace b1 := cell_later hb5 b1
    replace b2 := cell_later hb5 b2
    replace hb := hb.trans (hb5.mono hb.size)
    clear k4 hb5
    go_wp2_with fail
    refine (hAl w5 hb).mono ?_
    rintro e w6 ⟨rfl, hb6⟩
    go_wp2_with fail
    go_ret
    exact ⟨rfl, hb.trans (hb6.mono hb.size)⟩
end Go.Proofs.YtnikolglippfmaaGreatDoor
