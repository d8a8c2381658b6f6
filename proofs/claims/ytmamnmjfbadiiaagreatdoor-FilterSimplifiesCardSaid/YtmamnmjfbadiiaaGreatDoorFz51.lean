/- Part 51 of the proof that the statements of identitylaw09 on matching hold at all arguments: the package variables hold what the program lays; nothing else is asked. -/
import Derived.Test.YtmamnmjfbadiiaaGreatDoorFz41
set_option linter.unusedVariables false
set_option linter.unusedSimpArgs false
set_option maxRecDepth 100000
set_option maxHeartbeats 16000000
/- identityref02.Same, identityref09.Equal. -/
namespace Go.Proofs.YtmamnmjfbadiiaaGreatDoor
open Go.RowKit Go.Sort
open Idn (L B Bs drop_L take_L size_L)
theorem r2_same_any (v u : Value) (a b : List Bs) (r : Bool) (hr : r = true ↔ a = b) (w : World) (hv : StrsV w w.heap.size v a) (hu : StrsV w w.heap.size u b) (ha : a.length ≤ 1000000000) (hb : b.length ≤ 1000000000) :
  Calls Tryz.prog 24 #[v, u] w fun e w' => e = .returned (.bool r) ∧ Below w.heap.size w w' := by
 obtain ⟨A, c, rfl, _⟩ := SlV.shape hv
 obtain ⟨A2, c2, rfl, _⟩ := SlV.shape hu
 go_enter Tryz.func24, Tryz.ntmps24
 by_cases h0 : a.length = b.length
 ·have h0I : ((a.length : Int) != (b.length : Int)) = false := by rw [h0]; simp
  have H0 := Lib.hid h0
  have HRR := Lib.hid hr
  clear h0 hr
  go_wp2_with fail
  go_loopw [5] (fun i wr => ∃ (k : Nat), k ≤ a.length ∧ i = .int .i64 k ∧ Below w.heap.size w wr ∧ Hid (a.take k = b.take k)) (fun i _ => a.length - (intOf i).toNat)
  case atStart => exact ⟨0, Nat.zero_le _, rfl, Below.refl _ _, rfl⟩
  case round =>
   obtain ⟨k, hk, rfl, hbw, hinv⟩ := hrel
   by_cases hlt : k < a.length
   ·have hlt' : k < b.length := by have := H0.out; omega
    obtain ⟨b1, o1, hA, hb1, d0⟩ := StrsV.cell (SlV.keep hv hbw) hlt
    obtain ⟨b2, o2, hA2, hb2, e0⟩ := StrsV.cell (SlV.keep hu hbw) hlt'
    subst hA hA2
    have hltI : (k : Int) < (a.length : Int) := by omega
    have hltJ : (k : Int) < (b.length : Int) := by omega
    have ht := B_beq a[k] b[k]
    by_cases he : a[k] = b[k]
    ·have HF := Lib.hid (take_ext hinv.out hlt hlt' he)
     rw [decide_eq_true he] at ht
     clear hinv he
     generalize B a[k] = x at *
     generalize B b[k] = y at *
     go_wp2
     go_quiet (fail)
     go_wp2
     go_roundw
     case rel => exact ⟨k + 1, by omega, by go_num, below_drewN hbw _, HF⟩
     case measure => simp [intOf]; omega
    ·have HF := Lib.hid (no_true HRR.out (get_ne hlt hlt' he))
     rw [decide_eq_false he] at ht
     clear hinv he
     generalize B a[k] = x at *
     generalize B b[k] = y at *
     go_wp2
     go_quiet (fail)
     go_wp2
     go_ret
     exact ⟨ret_bool HF.out.symm, below_drewN hbw _⟩
   ·have hltI : ¬ (k : Int) < (a.length : Int) := by omega
    have hltJ : ¬ (k : Int) < (b.length : Int) := by have := H0.out; omega
    have HF : Hid (r = true) := HRR.out.2 (by
     have h1 := hinv.out
     have h2 := H0.out
     rwa [List.take_of_length_le (by omega), List.take_of_length_le (by omega)] at h1)
    clear hinv
    go_wp2
    go_ret
    exact ⟨ret_bool HF.out.symm, hbw⟩
 ·have h0I : ((a.length : Int) != (b.length : Int)) = true := by rw [bne_iff_ne]; omega
  have HF := Lib.hid (no_true hr fun h => h0 (by rw [h]))
  go_wp2_with fail
  go_ret
  exact ⟨ret_bool HF.out.symm, Below.refl _ _⟩
theorem r9_Equal_any : ∀ (d d' : Nat) (v u : Value) (f g : Flt) (r : Bool) (w : World), FltV w w.heap.size d v f → FltV w w.heap.size d' u g → FSm 1000 f → FSm 1000 g → (r = true ↔ f = g) →
  Calls Tryz.prog 19 #[v, u] w fun e w' => e = .returned (.bool r) ∧ Below w.heap.size w w' := by
 intro d
 induction d using Nat.strongRecOn with
 | _ d ih =>
 intro d' v u f g r w hv hu hs ht hr
 obtain ⟨Ap, cp, Ak, ck, rfl, hp, hk⟩ := hv.shape
 obtain ⟨Aq, cq', Al, cl, rfl, hq, hl⟩ := hu.shape
 have o3 := (fOk_own hs.2).2.2.1
 have q3 := (fOk_own ht.2).2.2.1
 have hkl := hs.kids.len
 have hll := ht.kids.len
 obtain ⟨pb, hpb⟩ := bool_of (f.parts = g.parts)
 have hE1 := fun W (hW : Below w.heap.size w W) => r2_same_any _ _ f.parts g.parts pb hpb W (SlV.mono (SlV.keep hp hW) hW.size) (SlV.mono (SlV.keep hq hW) hW.size) (by omega) (by omega)
 have kK := fun (W' : World) (a b : Value) (x y : Flt) (r' : Bool) (hx : x ∈ f.kids) (hy : y ∈ g.kids) (h0 : 0 < d) (h1 : FltV W' W'.heap.size (d - 1) a x) (h2 : FltV W' W'.heap.size (d' - 1) b y) (h3 : r' = true ↔ x = y) => ih (d - 1) (by omega) (d' - 1) a b x y r' W' h1 h2 (hs.kids.mem hx) (ht.kids.mem hy) h3
 have HR : Hid (r = true ↔ f.kind = g.kind ∧ f.name = g.name ∧ f.value = g.value ∧ f.parts = g.parts ∧ f.kids = g.kids) := hr.trans flt_ext
 clear ih hp hq hv hu hr o3 q3 hs ht
 have HPB := Lib.hid hpb
 clear hpb
 generalize f.kind = fk at *
 generalize g.kind = gk at *
 generalize f.name = fn at *
 generalize g.name = gn at *
 generalize f.value = fv at *
 generalize g.value = gv at *
 by_cases h1 : fk = gk
 case neg =>
  have t1 : (fk == gk) = false := beq_eq_false_iff_ne.2 h1
  have t1' : (fk != gk) = true := by rw [bne, t1]; rfl
  have HF := Lib.hid (no_true HR.out fun h => h1 h.1)
  clear h1
  clear HR hE1 kK hk hl
  go_enter Tryz.func19, Tryz.ntmps19
  go_upto_region 1 with fail
  with_reducible refine gen2 (R := fun W => Code.wp Tryz.prog _ _ _ W) ?_
  intro W hbW hszW hc1 hc2
  have x0 : W.cell? ⟨w.heap.size, 0, none⟩ = some (.int .i64 fk) := hc1 0 _ rfl
  have x1 : W.cell? ⟨w.heap.size, 1, none⟩ = some (.string (B fn)) := hc1 1 _ rfl
  have x2 : W.cell? ⟨w.heap.size, 2, none⟩ = some (.string (B fv)) := hc1 2 _ rfl
  have x3 : W.cell? ⟨w.heap.size, 3, none⟩ = some (.slice Ap f.parts.length cp) := hc1 3 _ rfl
  have x4 : W.cell? ⟨w.heap.size, 4, none⟩ = some (.slice Ak f.kids.length ck) := hc1 4 _ rfl
  have y0 : W.cell? ⟨w.heap.size + 1, 0, none⟩ = some (.int .i64 gk) := hc2 0 _ rfl
  have y1 : W.cell? ⟨w.heap.size + 1, 1, none⟩ = some (.string (B gn)) := hc2 1 _ rfl
  have y2 : W.cell? ⟨w.heap.size + 1, 2, none⟩ = some (.string (B gv)) := hc2 2 _ rfl
  have y3 : W.cell? ⟨w.heap.size + 1, 3, none⟩ = some (.slice Aq g.parts.length cq') := hc2 3 _ rfl
  have y4 : W.cell? ⟨w.heap.size + 1, 4, none⟩ = some (.slice Al g.kids.length cl) := hc2 4 _ rfl
  clear hc1 hc2 hszW
  go_wp2_with fail
  go_ret
  exact ⟨ret_bool HF.out.symm, hbW⟩
 subst h1
 by_cases h2 : fn = gn
 case neg =>
  have t2 := b_ne h2
  have HF := Lib.hid (no_true HR.out fun h => h2 h.2.1)
  clear h2
  clear HR hE1 kK hk hl
  go_enter Tryz.func19, Tryz.ntmps19
  go_upto_region 1 with fail
  with_reducible refine gen2 (R := fun W => Code.wp Tryz.prog _ _ _ W) ?_
  intro W hbW hszW hc1 hc2
  have x0 : W.cell? ⟨w.heap.size, 0, none⟩ = some (.int .i64 fk) := hc1 0 _ rfl
  have x1 : W.cell? ⟨w.heap.size, 1, none⟩ = some (.string (B fn)) := hc1 1 _ rfl
  have x2 : W.cell? ⟨w.heap.size, 2, none⟩ = some (.string (B fv)) := hc1 2 _ rfl
  have x3 : W.cell? ⟨w.heap.size, 3, none⟩ = some (.slice Ap f.parts.length cp) := hc1 3 _ rfl
  have x4 : W.cell? ⟨w.heap.size, 4, none⟩ = some (.slice Ak f.kids.length ck) := hc1 4 _ rfl
  have y0 : W.cell? ⟨w.heap.size + 1, 0, none⟩ = some (.int .i64 fk) := hc2 0 _ rfl
  have y1 : W.cell? ⟨w.heap.size + 1, 1, none⟩ = some (.string (B gn)) := hc2 1 _ rfl
  have y2 : W.cell? ⟨w.heap.size + 1, 2, none⟩ = some (.string (B gv)) := hc2 2 _ rfl
  have y3 : W.cell? ⟨w.heap.size + 1, 3, none⟩ = some (.slice Aq g.parts.length cq') := hc2 3 _ rfl
  have y4 : W.cell? ⟨w.heap.size + 1, 4, none⟩ = some (.slice Al g.kids.length cl) := hc2 4 _ rfl
  clear hc1 hc2 hszW
  go_wp2_with fail
  go_ret
  exact ⟨ret_bool HF.out.symm, hbW⟩
 subst h2
 by_cases h3 : fv = gv
 case neg =>
  have t3 := b_ne h3
  have HF := Lib.hid (no_true HR.out fun h => h3 h.2.2.1)
  clear h3
  clear HR hE1 kK hk hl
  go_enter Tryz.func19, Tryz.ntmps19
  go_upto_region 1 with fail
  with_reducible refine gen2 (R := fun W => Code.wp Tryz.prog _ _ _ W) ?_
  intro W hbW hszW hc1 hc2
  have x0 : W.cell? ⟨w.heap.size, 0, none⟩ = some (.int .i64 fk) := hc1 0 _ rfl
  have x1 : W.cell? ⟨w.heap.size, 1, none⟩ = some (.string (B fn)) := hc1 1 _ rfl
  have x2 : W.cell? ⟨w.heap.size, 2, none⟩ = some (.string (B fv)) := hc1 2 _ rfl
  have x3 : W.cell? ⟨w.heap.size, 3, none⟩ = some (.slice Ap f.parts.length cp) := hc1 3 _ rfl
  have x4 : W.cell? ⟨w.heap.size, 4, none⟩ = some (.slice Ak f.kids.length ck) := hc1 4 _ rfl
  have y0 : W.cell? ⟨w.heap.size + 1, 0, none⟩ = some (.int .i64 fk) := hc2 0 _ rfl
  have y1 : W.cell? ⟨w.heap.size + 1, 1, none⟩ = some (.string (B fn)) := hc2 1 _ rfl
  have y2 : W.cell? ⟨w.heap.size + 1, 2, none⟩ = some (.string (B gv)) := hc2 2 _ rfl
  have y3 : W.cell? ⟨w.heap.size + 1, 3, none⟩ = some (.slice Aq g.parts.length cq') := hc2 3 _ rfl
  have y4 : W.cell? ⟨w.heap.size + 1, 4, none⟩ = some (.slice Al g.kids.length cl) := hc2 4 _ rfl
  clear hc1 hc2 hszW
  go_wp2_with fail
  go_ret
  exact ⟨ret_bool HF.out.symm, hbW⟩
 subst h3
 go_enter Tryz.func19, Tryz.ntmps19
 go_upto_region 1 with fail
 with_reducible refine gen2 (R := fun W => Code.wp Tryz.prog _ _ _ W) ?_
 intro W hbW hszW hc1 hc2
 have x0 : W.cell? ⟨w.heap.size, 0, none⟩ = some (.int .i64 fk) := hc1 0 _ rfl
 have x1 : W.cell? ⟨w.heap.size, 1, none⟩ = some (.string (B fn)) := hc1 1 _ rfl
 have x2 : W.cell? ⟨w.heap.size, 2, none⟩ = some (.string (B fv)) := hc1 2 _ rfl
 have x3 : W.cell? ⟨w.heap.size, 3, none⟩ = some (.slice Ap f.parts.length cp) := hc1 3 _ rfl
 have x4 : W.cell? ⟨w.heap.size, 4, none⟩ = some (.slice Ak f.kids.length ck) := hc1 4 _ rfl
 have y0 : W.cell? ⟨w.heap.size + 1, 0, none⟩ = some (.int .i64 fk) := hc2 0 _ rfl
 have y1 : W.cell? ⟨w.heap.size + 1, 1, none⟩ = some (.string (B fn)) := hc2 1 _ rfl
 have y2 : W.cell? ⟨w.heap.size + 1, 2, none⟩ = some (.string (B fv)) := hc2 2 _ rfl
 have y3 : W.cell? ⟨w.heap.size + 1, 3, none⟩ = some (.slice Aq g.parts.length cq') := hc2 3 _ rfl
 have y4 : W.cell? ⟨w.heap.size + 1, 4, none⟩ = some (.slice Al g.kids.length cl) := hc2 4 _ rfl
 clear hc1 hc2 hszW
 go_wp2_with fail
 refine (hE1 W hbW).mono ?_
 rintro e w1 ⟨rfl, hb1⟩
 replace x4 := cell_later hb1 x4
 replace y4 := cell_later hb1 y4
 have hb := hbW.trans (hb1.mono hbW.size)
 clear hE1 hb1 hbW x0 x1 x2 x3 y0 y1 y2 y3
 cases pb
 ·have HF := Lib.hid (no_true HR.out fun h => by have := HPB.out.2 h.2.2.2.1; cases this)
  clear HR HPB kK hk hl
  go_wp2_with fail
  go_ret
  exact ⟨ret_bool HF.out.symm, hb⟩
 have hpe : f.parts = g.parts := HPB.out.1 rfl
 by_cases h5 : f.kids.length = g.kids.length
 case neg =>
  have hI : ((f.kids.length : Int) == (g.kids.length : Int)) = false := by rw [beq_eq_false_iff_ne]; omega
  have hI' : ((f.kids.length : Int) != (g.kids.length : Int)) = true := by rw [bne, hI]; rfl
  have HF := Lib.hid (no_true HR.out fun h => h5 (by rw [h.2.2.2.2]))
  clear HR HPB kK hk hl h5 hpe
  go_wp2_with fail
  go_ret
  exact ⟨ret_bool HF.out.symm, hb⟩
 have hI : ((f.kids.length : Int) == (g.kids.length : Int)) = true := by rw [beq_iff_eq]; omega
 have hI' : ((f.kids.length : Int) != (g.kids.length : Int)) = false := by rw [bne, hI]; rfl
 have H5 := Lib.hid h5
 have HR2 : Hid (r = true ↔ f.kids = g.kids) := HR.out.trans ⟨fun h => h.2.2.2.2, fun h => ⟨by first | rfl | trivial, by first | rfl | trivial, by first | rfl | trivial, hpe, h⟩⟩
 clear HR HPB h5 hpe
 go_wp2_with fail
 clear hI hI'
 go_loopw [5] (fun i wr => ∃ (k : Nat), k ≤ f.kids.length ∧ i = .int .i64 (k : Int) ∧ Below w1.heap.size w1 wr ∧ Hid (f.kids.take k = g.kids.take k)) (fun i _ => f.kids.length - (intOf i).toNat)
 case atStart => exact ⟨0, Nat.zero_le _, rfl, Below.refl _ _, rfl⟩
 case round =>
  obtain ⟨k, hk9, rfl, hbr, hinv⟩ := hrel
  obtain ⟨wo, hwo⟩ : ∃ wo : World, wo = wr := ⟨_, rfl⟩
  subst hwo
  have hbo := hb.trans (hbr.mono hb.size)
  replace x4 := cell_later hbr x4
  replace y4 := cell_later hbr y4
  by_cases hlt : k < f.kids.length
  ·have h0' : k < g.kids.length := by have := H5.out; omega
   obtain ⟨b1, o1, Ap1, cp1, Ak1, ck1, hA, hb1, d0, d1, d2, d3, d4, hd, hk1⟩ := FltsV.kid2 (FltsV.keep hk hbo) hlt
   obtain ⟨b2, o2, Ap2, cp2, Ak2, ck2, hA2, hb2, e0, e1, e2, e3, e4, hd', hk2⟩ := FltsV.kid2 (FltsV.keep hl hbo) h0'
   subst hA hA2
   have hltI : (k : Int) < (f.kids.length : Int) := by omega
   have hltJ : (k : Int) < (g.kids.length : Int) := by omega
   obtain ⟨bb, hbb⟩ := bool_of (f.kids[k] = g.kids[k]'h0')
   have hC := fun (W : World) (hW : Below wo.heap.size wo W) => kK W _ _ f.kids[k] (g.kids[k]'h0') bb (List.getElem_mem _) (List.getElem_mem _) hd (FltV.on (FltV.mono hk1 hbo.size) hW) (FltV.on (FltV.mono hk2 hbo.size) hW) hbb
   have hfl : bb = false → f.kids ≠ g.kids := fun h e => by
    have : f.kids[k] = g.kids[k]'h0' := by simp [e]
    rw [hbb.2 this] at h; cases h
   have htr : bb = true → Hid (f.kids.take (k + 1) = g.kids.take (k + 1)) := fun h => by
    show _ = _
    rw [List.take_succ_eq_append_getElem hlt, List.take_succ_eq_append_getElem h0', hinv.out, hbb.1 h]
   have q1 := cq (W := wo) fun V hV => hC V hV
   have i4 := cell_regrown x4
   have j4 := cell_regrown y4
   have i0 := cell_regrown d0
   have i1 := cell_regrown d1
   have i2 := cell_regrown d2
   have i3 := cell_regrown d3
   have i5 := cell_regrown d4
   have j0 := cell_regrown e0
   have j1 := cell_regrown e1
   have j2 := cell_regrown e2
   have j3 := cell_regrown e3
   have j5 := cell_regrown e4
   clear hinv kK hk1 hk2 hbb hC hk hl
   cases bb
   ·have HN := Lib.hid (no_true HR2.out (hfl rfl))
    clear hfl htr
    go_wp2_with fail
    refine wp_region_quiet_below (by kernel_rfl) (by kernel_rfl) ?_
    repeat (first | go_big_quiet_step ((go_at_call 19; exact q1 _ _)) | quiet_step ((go_at_call 19; exact q1 _ _)))
    refine wpQuiet_nil ?_
    intro _ hw'
    obtain ⟨⟨dq, osq⟩, hw''⟩ := hw'
    subst hw''
    have hb4 := below_regrown wo dq osq
    generalize grow (redrawn wo dq) osq = W4 at hb4 ⊢
    go_wp2_with fail
    go_ret
    exact ⟨ret_bool HN.out.symm, hbo.trans (hb4.mono hbo.size)⟩
   ·have HF := htr rfl
    clear hfl htr
    go_wp2_with fail
    refine wp_region_quiet_below (by kernel_rfl) (by kernel_rfl) ?_
    repeat (first | go_big_quiet_step ((go_at_call 19; exact q1 _ _)) | quiet_step ((go_at_call 19; exact q1 _ _)))
    refine wpQuiet_nil ?_
    intro _ hw'
    obtain ⟨⟨dq, osq⟩, hw''⟩ := hw'
    subst hw''
    have hb4 := below_regrown wo dq osq
    generalize grow (redrawn wo dq) osq = W4 at hb4 ⊢
    go_wp2_with fail
    go_roundw
    case rel => exact ⟨k + 1, by omega, by go_num, hbr.trans (hb4.mono hbr.size), HF⟩
    case measure => simp [intOf]; omega
  ·have hltI : ¬ (k : Int) < (f.kids.length : Int) := by omega
   have HF : Hid (r = true) := HR2.out.2 (by
    have h1 := hinv.out
    have h2 := H5.out
    rwa [List.take_of_length_le (by omega), List.take_of_length_le (by omega)] at h1)
   clear hinv
   go_wp2_with fail
   go_ret
   exact ⟨ret_bool HF.out.symm, hbo⟩
end Go.Proofs.YtmamnmjfbadiiaaGreatDoor
