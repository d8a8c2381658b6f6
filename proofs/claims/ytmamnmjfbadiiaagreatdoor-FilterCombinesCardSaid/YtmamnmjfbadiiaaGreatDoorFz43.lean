/- Part 43 of the proof that the statements of identitylaw09 on matching hold at all arguments: the package variables hold what the program lays; nothing else is asked. -/
import Derived.Test.YtmamnmjfbadiiaaGreatDoorFz42
set_option linter.unusedVariables false
set_option linter.unusedSimpArgs false
set_option maxRecDepth 100000
set_option maxHeartbeats 16000000
/- filter: satisfies, match, Match. -/
namespace Go.Proofs.YtmamnmjfbadiiaaGreatDoor
open Go.RowKit Go.Sort
open Idn (L B Bs drop_L take_L size_L)
theorem mov_cases' (f : Flt) (h : nodeErr f = 0) (h3 : f.kind = 3) : ∃ g, f.kids = [g] := by
  cases f with
  | mk k n v ps ks =>
    have hk : k = 3 := h3
    subst hk
    exact one_kid (form_not (ownErr_form (nodeErr_zero.1 h).1)).2.2.2
theorem satisfies_any (u : Value) (s : Idn.Sch) (tn : Bs) (ty : Int) (ts : Bool) (v : Value) (f : Flt) (d : Nat) (x : Bs) (w : World) (hu : SchV w w.heap.size u s) (hs : SSm s) (hE : Env w) (hU : EnvU w) (hv : FltV w w.heap.size d v f) (ho : fOk f) (hp2 : f.kind = 8 → 2 ≤ f.parts.length) (hx : x.length ≤ 100000000) :
  Calls Tryz.prog 83 #[u, .agg #[.string (B tn), .int .i64 ty, .bool ts], v, .string (B x)] w fun e w' => e = .returned (.bool (satF s ty f.kind f.name f.value f.parts x)) ∧ Below w.heap.size w w' := by
 obtain ⟨o1, o2, o3, o4⟩ := fOk_own ho
 have kN := fun W (hW : Below w.heap.size w W) => schNormal_any u s (B f.name) (B x) W (SchV.mono (SchV.keep hu hW) hW.size) hs (hE.keep hW) (hU.keep hW) (by rw [Idn.size_B]; omega) (by rw [Idn.size_B]; omega)
 have kC := fun W (hW : Below w.heap.size w W) => schCompare_any u s (B f.name) (B x) (B f.value) W (SchV.mono (SchV.keep hu hW) hW.size) hs (hE.keep hW) (hU.keep hW) (by rw [Idn.size_B]; omega) (by rw [Idn.size_B]; omega) (by rw [Idn.size_B]; omega)
 simp only [Idn.L_B] at kN kC
 obtain ⟨Ap, cp, Ak, ck, rfl, hp, hk⟩ := hv.shape
 have kM := fun (h2 : 2 ≤ f.parts.length) W (hW : Below w.heap.size w W) => foldMatch_any x _ f.parts W (hE.keep hW) (SlV.mono (SlV.keep hp hW) hW.size) h2 (by omega) (by omega) (fun y hy => by have := o4 y hy; omega)
 have kX := fun (h2 : 2 ≤ f.parts.length) W (hW : Below w.heap.size w W) => exact_any x _ f.parts W (hE.keep hW) (SlV.mono (SlV.keep hp hW) hW.size) h2 (by omega) (by omega)
 obtain ⟨sa, sb, rfl, hT, hC⟩ := hu
 obtain ⟨A1, c1, rfl, _⟩ := SlV.shape hT
 obtain ⟨A2, c2, rfl, _⟩ := SlV.shape hC
 have HR : Hid (satF s ty f.kind f.name f.value f.parts x = if f.kind = 7 then true
  else if f.kind = 8 then decide ((sNorm s f.name x).2 = 0) && ((decide (ty = 1) && foldF x f.parts) || (decide (ty = 2) && exactF x f.parts))
  else decide ((sComp s f.name x f.value).2 = 0) && ((decide (f.kind = 4) && decide ((sComp s f.name x f.value).1 = 0)) || ((decide (f.kind = 5) && decide (0 ≤ (sComp s f.name x f.value).1)) || (decide (f.kind = 6) && decide ((sComp s f.name x f.value).1 ≤ 0))))) := rfl
 generalize satF s ty f.kind f.name f.value f.parts x = R at *
 generalize sNorm s f.name x = nr at *
 generalize sComp s f.name x f.value = cr at *
 generalize foldF x f.parts = r1 at *
 generalize exactF x f.parts = r2 at *
 obtain ⟨nv, ne⟩ := nr
 obtain ⟨cv, ce⟩ := cr
 dsimp only at kN kC HR
 generalize f.kind = kd at *
 generalize f.name = fn at *
 generalize f.value = fv at *
 clear hT hC hp hk hv hE hU hs ho o1 o2 o3 o4 hx
 by_cases h7 : kd = 7
 ·subst h7
  have HF : Hid (R = true) := HR.out
  clear HR kN kC kM kX hp2
  go_enter Tryz.func83, Tryz.ntmps83
  go_upto_region 1 with fail
  with_reducible refine gen3 (R := fun W => Code.wp Tryz.prog _ _ _ W) ?_
  intro W hbW hszW hc1 hc2 hc3 _
  have s0 : W.cell? ⟨w.heap.size, 0, none⟩ = some (.slice A1 s.types.length c1) := hc1 0 _ rfl
  have s1 : W.cell? ⟨w.heap.size, 1, none⟩ = some (.slice A2 s.classes.length c2) := hc1 1 _ rfl
  have t1 : W.cell? ⟨w.heap.size + 1, 1, none⟩ = some (.int .i64 ty) := hc2 1 _ rfl
  have b0 : W.cell? ⟨w.heap.size + 1 + 1, 0, none⟩ = some (.int .i64 7) := hc3 0 _ rfl
  have b1 : W.cell? ⟨w.heap.size + 1 + 1, 1, none⟩ = some (.string (B fn)) := hc3 1 _ rfl
  have b2 : W.cell? ⟨w.heap.size + 1 + 1, 2, none⟩ = some (.string (B fv)) := hc3 2 _ rfl
  have b3 : W.cell? ⟨w.heap.size + 1 + 1, 3, none⟩ = some (.slice Ap f.parts.length cp) := hc3 3 _ rfl
  clear hc1 hc2 hc3 hszW
  go_wp2_with fail
  go_ret
  exact ⟨ret_bool HF.out.symm, hbW⟩
 by_cases h8 : kd = 8
 ·subst h8
  replace hp2 := hp2 rfl
  replace kM := kM hp2
  replace kX := kX hp2
  have HR2 : Hid (R = (decide (ne = 0) && ((decide (ty = 1) && r1) || (decide (ty = 2) && r2)))) := HR.out
  clear HR kC h7 hp2
  go_enter Tryz.func83, Tryz.ntmps83
  go_upto_region 1 with fail
  with_reducible refine gen3 (R := fun W => Code.wp Tryz.prog _ _ _ W) ?_
  intro W hbW hszW hc1 hc2 hc3 _
  have s0 : W.cell? ⟨w.heap.size, 0, none⟩ = some (.slice A1 s.types.length c1) := hc1 0 _ rfl
  have s1 : W.cell? ⟨w.heap.size, 1, none⟩ = some (.slice A2 s.classes.length c2) := hc1 1 _ rfl
  have t1 : W.cell? ⟨w.heap.size + 1, 1, none⟩ = some (.int .i64 ty) := hc2 1 _ rfl
  have b0 : W.cell? ⟨w.heap.size + 1 + 1, 0, none⟩ = some (.int .i64 8) := hc3 0 _ rfl
  have b1 : W.cell? ⟨w.heap.size + 1 + 1, 1, none⟩ = some (.string (B fn)) := hc3 1 _ rfl
  have b2 : W.cell? ⟨w.heap.size + 1 + 1, 2, none⟩ = some (.string (B fv)) := hc3 2 _ rfl
  have b3 : W.cell? ⟨w.heap.size + 1 + 1, 3, none⟩ = some (.slice Ap f.parts.length cp) := hc3 3 _ rfl
  clear hc1 hc2 hc3 hszW
  go_wp2_with fail
  refine (kN W hbW).mono ?_
  rintro e w1 ⟨rfl, hb1⟩
  replace t1 := cell_later hb1 t1
  replace b3 := cell_later hb1 b3
  have hb := hbW.trans (hb1.mono hbW.size)
  clear kN s0 s1 b0 b1 b2 hbW hb1
  by_cases hne : ne = 0
  case neg =>
   have hI : (ne != 0) = true := by simpa using hne
   have HF : Hid (R = false) := by show _ = _; rw [HR2.out, decide_eq_false hne]; rfl
   clear HR2 hne kM kX
   go_wp2_with fail
   go_ret
   exact ⟨ret_bool HF.out.symm, hb⟩
  subst hne
  have HR3 : Hid (R = ((decide (ty = 1) && r1) || (decide (ty = 2) && r2))) := HR2.out
  clear HR2
  by_cases hy1 : ty = 1
  ·subst hy1
   have HF : Hid (R = r1) := by show _ = _; rw [HR3.out]; simp
   clear HR3 kX
   go_wp2_with fail
   refine (kM w1 hb).mono ?_
   rintro e w2 ⟨rfl, hb2⟩
   replace t1 := cell_later hb2 t1
   have hb9 := hb.trans (hb2.mono hb.size)
   clear kM hb2 b3
   cases r1
   all_goals
    go_wp2_with fail
    go_ret
    exact ⟨ret_bool HF.out.symm, hb9⟩
  by_cases hy2 : ty = 2
  ·subst hy2
   have HF : Hid (R = r2) := by show _ = _; rw [HR3.out]; simp
   clear HR3 kM
   go_wp2_with fail
   refine (kX w1 hb).mono ?_
   rintro e w2 ⟨rfl, hb2⟩
   have hb9 := hb.trans (hb2.mono hb.size)
   clear kX hb2 b3
   cases r2
   all_goals
    go_wp2_with fail
    go_ret
    exact ⟨ret_bool HF.out.symm, hb9⟩
  have e1 : (ty == 1) = false := beq_eq_false_iff_ne.2 hy1
  have e2 : (ty == 2) = false := beq_eq_false_iff_ne.2 hy2
  have HF : Hid (R = false) := by show _ = _; rw [HR3.out, decide_eq_false hy1, decide_eq_false hy2]; rfl
  clear HR3 kM kX hy1 hy2
  go_wp2_with fail
  go_ret
  exact ⟨ret_bool HF.out.symm, hb⟩
 have e7 : (kd == 7) = false := beq_eq_false_iff_ne.2 h7
 have e8 : (kd == 8) = false := beq_eq_false_iff_ne.2 h8
 have HR2 : Hid (R = (decide (ce = 0) && ((decide (kd = 4) && decide (cv = 0)) || ((decide (kd = 5) && decide (0 ≤ cv)) || (decide (kd = 6) && decide (cv ≤ 0)))))) := by
  show _ = _; rw [HR.out, if_neg h7, if_neg h8]
 clear HR kN kM kX hp2 h7 h8
 go_enter Tryz.func83, Tryz.ntmps83
 go_upto_region 1 with fail
 with_reducible refine gen3 (R := fun W => Code.wp Tryz.prog _ _ _ W) ?_
 intro W hbW hszW hc1 hc2 hc3 _
 have s0 : W.cell? ⟨w.heap.size, 0, none⟩ = some (.slice A1 s.types.length c1) := hc1 0 _ rfl
 have s1 : W.cell? ⟨w.heap.size, 1, none⟩ = some (.slice A2 s.classes.length c2) := hc1 1 _ rfl
 have t1 : W.cell? ⟨w.heap.size + 1, 1, none⟩ = some (.int .i64 ty) := hc2 1 _ rfl
 have b0 : W.cell? ⟨w.heap.size + 1 + 1, 0, none⟩ = some (.int .i64 kd) := hc3 0 _ rfl
 have b1 : W.cell? ⟨w.heap.size + 1 + 1, 1, none⟩ = some (.string (B fn)) := hc3 1 _ rfl
 have b2 : W.cell? ⟨w.heap.size + 1 + 1, 2, none⟩ = some (.string (B fv)) := hc3 2 _ rfl
 have b3 : W.cell? ⟨w.heap.size + 1 + 1, 3, none⟩ = some (.slice Ap f.parts.length cp) := hc3 3 _ rfl
 clear hc1 hc2 hc3 hszW
 go_wp2_with fail
 refine (kC W hbW).mono ?_
 rintro e w1 ⟨rfl, hb1⟩
 replace b0 := cell_later hb1 b0
 have hb := hbW.trans (hb1.mono hbW.size)
 clear kC s0 s1 t1 b1 b2 b3 hbW hb1
 by_cases hce : ce = 0
 case neg =>
  have hI : (ce != 0) = true := by simpa using hce
  have HF : Hid (R = false) := by show _ = _; rw [HR2.out, decide_eq_false hce]; rfl
  clear HR2 hce
  go_wp2_with fail
  go_ret
  exact ⟨ret_bool HF.out.symm, hb⟩
 subst hce
 have HR3 : Hid (R = ((decide (kd = 4) && decide (cv = 0)) || ((decide (kd = 5) && decide (0 ≤ cv)) || (decide (kd = 6) && decide (cv ≤ 0))))) := HR2.out
 clear HR2
 by_cases h4 : kd = 4
 ·subst h4
  by_cases hc0 : cv = 0
  ·have hI : (cv == 0) = true := beq_iff_eq.2 hc0
   have HF : Hid (R = true) := by show _ = _; rw [HR3.out, decide_eq_true hc0]; rfl
   clear HR3 hc0 e7 e8
   go_wp2_with fail
   go_ret
   exact ⟨ret_bool HF.out.symm, hb⟩
  ·have hI : (cv == 0) = false := beq_eq_false_iff_ne.2 hc0
   have HF : Hid (R = false) := by show _ = _; rw [HR3.out, decide_eq_false hc0]; rfl
   clear HR3 hc0 e7 e8
   go_wp2_with fail
   go_ret
   exact ⟨ret_bool HF.out.symm, hb⟩
 have e4 : (kd == 4) = false := beq_eq_false_iff_ne.2 h4
 by_cases h5 : kd = 5
 ·subst h5
  by_cases hc0 : 0 ≤ cv
  ·have HF : Hid (R = true) := by show _ = _; rw [HR3.out, decide_eq_true hc0]; rfl
   clear HR3 e7 e8 h4 e4
   go_wp2_with fail
   go_ret
   exact ⟨ret_bool HF.out.symm, hb⟩
  ·have HF : Hid (R = false) := by show _ = _; rw [HR3.out, decide_eq_false hc0]; rfl
   clear HR3 e7 e8 h4 e4
   have HC := Lib.hid (decide_eq_false hc0)
   go_wp2_with fail
   go_ret
   exact ⟨ret_bool (by rw [HF.out]; first | rfl | exact HC.out), hb⟩
 have e5 : (kd == 5) = false := beq_eq_false_iff_ne.2 h5
 by_cases h6 : kd = 6
 ·subst h6
  by_cases hc0 : cv ≤ 0
  ·have HF : Hid (R = true) := by show _ = _; rw [HR3.out, decide_eq_true hc0]; rfl
   clear HR3 e7 e8 h4 e4 h5 e5
   go_wp2_with fail
   go_ret
   exact ⟨ret_bool HF.out.symm, hb⟩
  ·have HF : Hid (R = false) := by show _ = _; rw [HR3.out, decide_eq_false hc0]; rfl
   clear HR3 e7 e8 h4 e4 h5 e5
   have HC := Lib.hid (decide_eq_false hc0)
   go_wp2_with fail
   go_ret
   exact ⟨ret_bool (by rw [HF.out]; first | rfl | exact HC.out), hb⟩
 have e6 : (kd == 6) = false := beq_eq_false_iff_ne.2 h6
 have HF : Hid (R = false) := by show _ = _; rw [HR3.out, decide_eq_false h4, decide_eq_false h5, decide_eq_false h6]; rfl
 clear HR3 h4 h5 h6
 go_wp2_with fail
 go_ret
 exact ⟨ret_bool HF.out.symm, hb⟩
theorem fn_m1 : FnB 78 := by intro a w; kernel_rfl
theorem fn_m2 : FnB 79 := by intro a w; kernel_rfl
theorem fn_m3 : FnB 82 := by intro a w; kernel_rfl
theorem match1_any (p3 p5 d : Nat) (a b c e : Value) (v : Value) (f : Flt) (r : Bool) (w : World) (hv : FltV w w.heap.size d v f) (h3 : w.cell? ⟨p3, 0, none⟩ = some a) (h3' : w.cell? ⟨p3, 1, none⟩ = some b) (h5 : w.cell? ⟨p5, 0, none⟩ = some c) (h5' : w.cell? ⟨p5, 1, none⟩ = some e)
  (ih : ∀ (W : World), Below w.heap.size w W → Calls Tryz.prog 43 #[.agg #[a, b], v, .agg #[c, e]] W fun e w' => e = .returned (.bool r) ∧ Below W.heap.size W w') :
  Calls Tryz.prog 78 #[v, .pointer (some ⟨p3, 0, none⟩), .pointer (some ⟨p5, 0, none⟩)] w fun e w' => e = .returned (.bool r) ∧ Below w.heap.size w w' := by
 obtain ⟨Ap, cp, Ak, ck, rfl, hp, hk⟩ := hv.shape
 go_enter Tryz.func78, Tryz.ntmps78
 go_upto_region 1 with fail
 with_reducible refine gen1 (R := fun W => Code.wp Tryz.prog _ _ _ W) ?_
 intro W hbW hszW hc1 _
 have k0 : W.cell? ⟨w.heap.size, 0, none⟩ = some (.int .i64 f.kind) := hc1 0 _ rfl
 have k1 : W.cell? ⟨w.heap.size, 1, none⟩ = some (.string (B f.name)) := hc1 1 _ rfl
 have k2 : W.cell? ⟨w.heap.size, 2, none⟩ = some (.string (B f.value)) := hc1 2 _ rfl
 have k3 : W.cell? ⟨w.heap.size, 3, none⟩ = some (.slice Ap f.parts.length cp) := hc1 3 _ rfl
 have k4 : W.cell? ⟨w.heap.size, 4, none⟩ = some (.slice Ak f.kids.length ck) := hc1 4 _ rfl
 replace h3 := cell_later hbW h3
 replace h3' := cell_later hbW h3'
 replace h5 := cell_later hbW h5
 replace h5' := cell_later hbW h5'
 have hcall := ih W hbW
 clear hc1 hszW hp hk hv ih
 go_wp2_with fail
 refine hcall.mono ?_
 rintro e w2 ⟨rfl, hb2⟩
 go_wp2_with fail
 go_ret
 exact ⟨rfl, hbW.trans (hb2.mono hbW.size)⟩
theorem match2_any (p7 p3 p5 d : Nat) (v : Value) (f : Flt) (r : Bool) (w : World) (hv : FltV w w.heap.size d v f) (h7 : w.cell? ⟨p7, 0, none⟩ = some (.func (.func 78) #[] #[.pointer (some ⟨p3, 0, none⟩), .pointer (some ⟨p5, 0, none⟩)]))
  (ih : ∀ (W : World), Below w.heap.size w W → Calls Tryz.prog 78 #[v, .pointer (some ⟨p3, 0, none⟩), .pointer (some ⟨p5, 0, none⟩)] W fun e w' => e = .returned (.bool r) ∧ Below W.heap.size W w') :
  Calls Tryz.prog 79 #[v, .pointer (some ⟨p7, 0, none⟩)] w fun e w' => e = .returned (.bool (!r)) ∧ Below w.heap.size w w' := by
 obtain ⟨Ap, cp, Ak, ck, rfl, hp, hk⟩ := hv.shape
 go_enter Tryz.func79, Tryz.ntmps79
 go_upto_region 1 with fail
 with_reducible refine gen1 (R := fun W => Code.wp Tryz.prog _ _ _ W) ?_
 intro W hbW hszW hc1 _
 have k0 : W.cell? ⟨w.heap.size, 0, none⟩ = some (.int .i64 f.kind) := hc1 0 _ rfl
 have k1 : W.cell? ⟨w.heap.size, 1, none⟩ = some (.string (B f.name)) := hc1 1 _ rfl
 have k2 : W.cell? ⟨w.heap.size, 2, none⟩ = some (.string (B f.value)) := hc1 2 _ rfl
 have k3 : W.cell? ⟨w.heap.size, 3, none⟩ = some (.slice Ap f.parts.length cp) := hc1 3 _ rfl
 have k4 : W.cell? ⟨w.heap.size, 4, none⟩ = some (.slice Ak f.kids.length ck) := hc1 4 _ rfl
 replace h7 := cell_later hbW h7
 have hcall := ih W hbW
 clear hc1 hszW hp hk hv ih
 cases r
 all_goals
  go_wp2_with fail
  refine hcall.mono ?_
  rintro e w2 ⟨rfl, hb2⟩
  go_wp2_with fail
  go_ret
  exact ⟨rfl, hbW.trans (hb2.mono hbW.size)⟩
theorem match3_any (p3 p8 p4 : Nat) (a b t0 t1 t2 q0 q1 q2 q3 q4 : Value) (x : Bs) (r : Bool) (w : World) (h30 : w.cell? ⟨p3, 0, none⟩ = some a) (h31 : w.cell? ⟨p3, 1, none⟩ = some b) (h80 : w.cell? ⟨p8, 0, none⟩ = some t0) (h81 : w.cell? ⟨p8, 1, none⟩ = some t1) (h82 : w.cell? ⟨p8, 2, none⟩ = some t2)
  (h40 : w.cell? ⟨p4, 0, none⟩ = some q0) (h41 : w.cell? ⟨p4, 1, none⟩ = some q1) (h42 : w.cell? ⟨p4, 2, none⟩ = some q2) (h43 : w.cell? ⟨p4, 3, none⟩ = some q3) (h44 : w.cell? ⟨p4, 4, none⟩ = some q4)
  (hc : Calls Tryz.prog 83 #[.agg #[a, b], .agg #[t0, t1, t2], .agg #[q0, q1, q2, q3, q4], .string (B x)] w fun e w' => e = .returned (.bool r) ∧ Below w.heap.size w w') :
  Calls Tryz.prog 82 #[.string (B x), .pointer (some ⟨p3, 0, none⟩), .pointer (some ⟨p8, 0, none⟩), .pointer (some ⟨p4, 0, none⟩)] w fun e w' => e = .returned (.bool r) ∧ Below w.heap.size w w' := by
 go_enter Tryz.func82, Tryz.ntmps82
 go_wp2_with fail
 refine hc.mono ?_
 rintro e w2 ⟨rfl, hb2⟩
 go_wp2_with fail
 go_ret
 exact ⟨rfl, hb2⟩
theorem fMat_unf (s : Idn.Sch) (A : List Idn.Att) (f : Flt) : fMat s A f = if f.kind = 1 then fAll s A f.kids else if f.kind = 2 then fAny s A f.kids else if f.kind = 3 then !fAll s A f.kids else cmpF s A f.kind f.name f.value f.parts := by cases f; rfl
theorem any_not {α : Type} (p : α → Bool) (l : List α) : (l.any fun x => !p x) = !l.all p := by
 induction l with
 | nil => rfl
 | cons a l ih => rw [List.any_cons, List.all_cons, ih]; cases p a <;> rfl
def AGet (A : List Idn.Att) : Prop := Idn.ASm7 A ∧ ∀ n, (rGet A n).length ≤ 1000000000 ∧ ∀ x ∈ rGet A n, x.length ≤ 100000000
theorem node_parts {f : Flt} (h : nodeErr f = 0) : f.kind = 8 → 2 ≤ f.parts.length := by
  cases f with
  | mk k n v ps ks =>
    intro hk
    have hk' : k = 8 := hk
    subst hk'
    have hf := ownErr_form (nodeErr_zero.1 h).1
    unfold formF at hf
    rw [if_neg (by omega), if_neg (by omega), if_neg (by omega), if_neg (by omega), if_pos rfl] at hf
    simp only [Bool.and_eq_true] at hf
    have h2 := hf.2.2
    unfold partsF at h2
    simp only [Bool.and_eq_true, decide_eq_true_eq] at h2
    exact h2.1
theorem match_any : ∀ (d : Nat) (u : Value) (s : Idn.Sch) (v : Value) (f : Flt) (nm : ByteArray) (av : Value) (A : List Idn.Att) (w : World), SchV w w.heap.size u s → SSm s → Env w → EnvU w → AttsV w w.heap.size av A → AGet A → FltV w w.heap.size d v f → FSm 1000 f → nodeErr f = 0 →
  Calls Tryz.prog 43 #[u, v, .agg #[.string nm, av]] w fun e w' => e = .returned (.bool (fMat s A f)) ∧ Below w.heap.size w w' := by
 intro d
 induction d using Nat.strongRecOn with
 | _ d ih =>
 intro u s v f nm av A w hu hs hE hU ha hA hv hsm hne
 have hks := hsm.kids
 have hkl := hks.len
 have hu0 := hu
 have hv0 := hv
 obtain ⟨Ap, cp, Ak, ck, rfl, hp, hk⟩ := hv.shape
 obtain ⟨sa, sb, rfl, hT, hC⟩ := hu
 obtain ⟨A1, c1, rfl, _⟩ := SlV.shape hT
 obtain ⟨A2, c2, rfl, _⟩ := SlV.shape hC
 obtain ⟨A3, c3, rfl, _⟩ := SlV.shape ha
 have hne' : ∀ g ∈ f.kids, nodeErr g = 0 := by
  cases f; exact (nodeErr_zero.1 hne).2
 have kK := fun (g : Flt) (hg : g ∈ f.kids) (hd : 0 < d) (vg : Value) (W : World) (hW : Below w.heap.size w W) (hvg : FltV W W.heap.size (d - 1) vg g) =>
  ih (d - 1) (by omega) _ s vg g nm _ A W (SchV.mono (SchV.keep hu0 hW) hW.size) hs (hE.keep hW) (hU.keep hW) (AttsV.mono (AttsV.keep ha hW) hW.size) hA hvg (hks.mem hg) (hne' g hg)
 have HR := Lib.hid (fMat_unf s A f)
 have kSat := fun (tn : Bs) (ty : Int) (ts : Bool) (x : Bs) (hx : x.length ≤ 100000000) W (hW : Below w.heap.size w W) => satisfies_any _ s tn ty ts _ f d x W (SchV.mono (SchV.keep hu0 hW) hW.size) hs (hE.keep hW) (hU.keep hW) (hv0.on hW) hsm.2 (node_parts hne) hx
 have kT := fun W (hW : Below w.heap.size w W) => type_any _ s (B f.name) W (SchV.mono (SchV.keep hu0 hW) hW.size) hs (by rw [Idn.size_B]; have := (fOk_own hsm.2).1; omega)
 have kG := fun W (hW : Below w.heap.size w W) => getG_any _ A (B f.name) W (AttsV.mono (AttsV.keep ha hW) hW.size) hA.1 (by rw [Idn.size_B]; have := (fOk_own hsm.2).1; omega)
 have kgl := hA.2 f.name
 have hk3 : f.kind = 3 → ∃ g, f.kids = [g] := fun h3 => by
  rcases mov_cases' f hne h3 with ⟨g, hg⟩
  exact ⟨g, hg⟩
 simp only [Idn.L_B] at kT kG
 generalize fMat s A f = R at *
 clear hT hC hu0 hv0 hv hsm hE hU hs hne hne' hA ih
 go_enter Tryz.func43, Tryz.ntmps43
 go_upto_region 1 with fail
 with_reducible refine gen3 (R := fun W => Code.wp Tryz.prog _ _ _ W) ?_
 intro W hbW hszW hc1 hc2 hc3 _
 have s0 : W.cell? ⟨w.heap.size, 0, none⟩ = some (.slice A1 s.types.length c1) := hc1 0 _ rfl
 have s1 : W.cell? ⟨w.heap.size, 1, none⟩ = some (.slice A2 s.classes.length c2) := hc1 1 _ rfl
 have b0 : W.cell? ⟨w.heap.size + 1, 0, none⟩ = some (.int .i64 f.kind) := hc2 0 _ rfl
 have b1 : W.cell? ⟨w.heap.size + 1, 1, none⟩ = some (.string (B f.name)) := hc2 1 _ rfl
 have b2 : W.cell? ⟨w.heap.size + 1, 2, none⟩ = some (.string (B f.value)) := hc2 2 _ rfl
 have b3 : W.cell? ⟨w.heap.size + 1, 3, none⟩ = some (.slice Ap f.parts.length cp) := hc2 3 _ rfl
 have b4 : W.cell? ⟨w.heap.size + 1, 4, none⟩ = some (.slice Ak f.kids.length ck) := hc2 4 _ rfl
 have e0 : W.cell? ⟨w.heap.size + 1 + 1, 0, none⟩ = some (.string nm) := hc3 0 _ rfl
 have e1 : W.cell? ⟨w.heap.size + 1 + 1, 1, none⟩ = some (.slice A3 A.length c3) := hc3 1 _ rfl
 clear hc1 hc2 hc3 hszW
 go_upto_region 2 with fail
 with_reducible refine gen1 (R := fun W => Code.wp Tryz.prog _ _ _ W) ?_
 intro W2 hbW2 hszW2 hc7 _
 have p7 : W2.cell? ⟨W.heap.size, 0, none⟩ = some (.func (.func 78) #[] #[.pointer (some ⟨w.heap.size, 0, none⟩), .pointer (some ⟨w.heap.size + 1 + 1, 0, none⟩)]) := hc7 0 _ rfl
 replace s0 := cell_later hbW2 s0
 replace s1 := cell_later hbW2 s1
 replace b0 := cell_later hbW2 b0
 replace b1 := cell_later hbW2 b1
 replace b2 := cell_later hbW2 b2
 replace b3 := cell_later hbW2 b3
 replace b4 := cell_later hbW2 b4
 replace e0 := cell_later hbW2 e0
 replace e1 := cell_later hbW2 e1
 have hb := hbW.trans (hbW2.mono hbW.size)
 clear hc7 hszW2 hbW2 hbW
 have k1 := fun (V : World) (vg : Value) (g : Flt) (hg : g ∈ f.kids) (hV : Below W2.heap.size W2 V) (hd : 0 < d) (hvg : FltV V V.heap.size (d - 1) vg g) => match1_any w.heap.size (w.heap.size + 1 + 1) (d - 1) _ _ _ _ vg g (fMat s A g) V hvg (cell_later hV s0) (cell_later hV s1) (cell_later hV e0) (cell_later hV e1) (fun Z hZ => kK g hg hd vg Z ((hb.trans (hV.mono hb.size)).trans (hZ.mono (hb.trans (hV.mono hb.size)).size)) (hvg.on hZ))
 have hk2 := FltsV.on hk hb
 clear hk
 by_cases h1 : f.kind = 1
 ·have HF : Hid (R = !!f.kids.all (fMat s A)) := by show _ = _; rw [HR.out, if_pos h1, fAll_eq]; simp
  have hH := hasK_any 79 #[.pointer (some ⟨W.heap.size, 0, none⟩)] fn_m2 (fun g => !fMat s A g) _ f.kids d W2 hk2 (by omega) fun V vg g hg hV hd hvg =>
   match2_any W.heap.size w.heap.size (w.heap.size + 1 + 1) (d - 1) vg g (fMat s A g) V hvg (cell_later hV p7) fun Z hZ => k1 Z vg g hg (hV.trans (hZ.mono hV.size)) hd (hvg.on hZ)
  rw [any_not] at hH
  rw [h1] at b0
  generalize f.kids.all (fMat s A) = ra at *
  clear HR h1 k1 kK kSat kT kG kgl hk3 hk2 hp ha
  cases ra
  all_goals
   go_wp2_with fail
   refine hH.mono ?_
   rintro e w3 ⟨rfl, hb3⟩
   go_wp2_with fail
   go_ret
   exact ⟨ret_bool HF.out.symm, hb.trans (hb3.mono hb.size)⟩
 by_cases h2 : f.kind = 2
 ·have HF : Hid (R = f.kids.any (fMat s A)) := by show _ = _; rw [HR.out, if_neg h1, if_pos h2, fAny_eq]
  have hH := hasK_any 78 #[.pointer (some ⟨w.heap.size, 0, none⟩), .pointer (some ⟨w.heap.size + 1 + 1, 0, none⟩)] fn_m1 (fMat s A) _ f.kids d W2 hk2 (by omega) fun V vg g hg hV hd hvg => k1 V vg g hg hV hd hvg
  rw [h2] at b0
  generalize f.kids.any (fMat s A) = ra at *
  clear HR h1 h2 k1 kK kSat kT kG kgl hk3 hk2 hp ha
  go_wp2_with fail
  refine hH.mono ?_
  rintro e w3 ⟨rfl, hb3⟩
  go_wp2_with fail
  go_ret
  exact ⟨ret_bool HF.out.symm, hb.trans (hb3.mono hb.size)⟩
 by_cases h3 : f.kind = 3
 ·obtain ⟨g, hkg⟩ := hk3 h3
  have HF : Hid (R = !fMat s A g) := by show _ = _; rw [HR.out, if_neg h1, if_neg h2, if_pos h3, hkg, fAll_eq]; simp
  obtain ⟨gb, off, Ap', cp', Ak', ck', hAk, hgl, g0, g1, g2, g3, g4, hd, hkid⟩ := FltsV.kid2 hk2 (k := 0) (by rw [hkg]; exact Nat.one_pos)
  have hg : f.kids[0]'(by rw [hkg]; exact Nat.one_pos) = g := by simp [hkg]
  rw [hg] at g0 g1 g2 g3 g4 hkid
  simp only [Nat.zero_mul, Nat.add_zero] at g0 g1 g2 g3 g4
  subst hAk
  have hmg : g ∈ f.kids := by rw [hkg]; exact List.mem_cons_self
  have hl1 : f.kids.length = 1 := by rw [hkg]; rfl
  rw [hl1] at b4 hk2 ⊢
  rw [h3] at b0
  have hcall := fun V (hV : Below W2.heap.size W2 V) => k1 V _ g hmg hV hd (hkid.on hV)
  have q1 := cq (W := W2) fun V hV => hcall V hV
  generalize fMat s A g = rg at *
  have i7 := cell_regrown p7
  have i4 := cell_regrown b4
  have i0 := cell_regrown g0
  have i1 := cell_regrown g1
  have i2 := cell_regrown g2
  have i3 := cell_regrown g3
  have i5 := cell_regrown g4
  clear HR h1 h2 h3 k1 kK kSat kT kG kgl hk3 hk2 hp ha hkid hkg hg hl1 hmg hcall hkl hks
  cases rg
  all_goals
   go_wp2_with fail
   refine wp_region_quiet_below (by kernel_rfl) (by kernel_rfl) ?_
   repeat (first | go_big_quiet_step ((go_at_call 78; exact q1 _ _)) | quiet_step ((go_at_call 78; exact q1 _ _)))
   refine wpQuiet_nil ?_
   intro _ hw'
   obtain ⟨⟨dq, osq⟩, hw''⟩ := hw'
   subst hw''
   have hb4 := below_regrown W2 dq osq
   generalize grow (redrawn W2 dq) osq = W4 at hb4 ⊢
   go_wp2_with fail
   go_ret
   exact ⟨ret_bool HF.out.symm, hb.trans (hb4.mono hb.size)⟩
 have f1 : (f.kind == 1) = false := beq_eq_false_iff_ne.2 h1
 have f2 : (f.kind == 2) = false := beq_eq_false_iff_ne.2 h2
 have f3 : (f.kind == 3) = false := beq_eq_false_iff_ne.2 h3
 have HR2 : Hid (R = ((tyLook (sound s) f.name).2 && (rGet A f.name).any fun x => satF s (tyLook (sound s) f.name).1.syn f.kind f.name f.value f.parts x)) := by
  show _ = _; rw [HR.out, if_neg h1, if_neg h2, if_neg h3]; rfl
 clear HR h1 h2 h3 k1 kK hk3 hk2 p7
 generalize tyLook (sound s) f.name = tl at *
 obtain ⟨⟨tn, ty, ts⟩, ok⟩ := tl
 dsimp only at HR2
 unfold tyV sv at kT
 dsimp only at kT
 go_wp2_with fail
 refine (kT W2 hb).mono ?_
 rintro e w3 ⟨rfl, hb3⟩
 clear kT
 go_upto_region 10 with fail
 with_reducible refine gen1 (R := fun W => Code.wp Tryz.prog _ _ _ W) ?_
 intro W4 hbW4 hszW4 hc8 _
 have t0 : W4.cell? ⟨w3.heap.size, 0, none⟩ = some (.string (B tn)) := hc8 0 _ rfl
 have t1 : W4.cell? ⟨w3.heap.size, 1, none⟩ = some (.int .i64 ty) := hc8 1 _ rfl
 have t2 : W4.cell? ⟨w3.heap.size, 2, none⟩ = some (.bool ts) := hc8 2 _ rfl
 have hb34 := hb3.trans (hbW4.mono hb3.size)
 have hbw := hb.trans (hb34.mono hb.size)
 replace s0 := cell_later hb34 s0
 replace s1 := cell_later hb34 s1
 replace b0 := cell_later hb34 b0
 replace b1 := cell_later hb34 b1
 replace b2 := cell_later hb34 b2
 replace b3 := cell_later hb34 b3
 replace b4 := cell_later hb34 b4
 replace e0 := cell_later hb34 e0
 replace e1 := cell_later hb34 e1
 clear hc8 hszW4 hbW4 hb3 hb34
 cases ok
 ·have HF : Hid (R = false) := HR2.out
  clear HR2 kSat kG kgl hp ha
  go_wp2_with fail
  go_ret
  exact ⟨ret_bool HF.out.symm, hbw⟩
 have HR3 : Hid (R = (rGet A f.name).any fun x => satF s ty f.kind f.name f.value f.parts x) := HR2.out
 clear HR2
 go_wp2_with fail
 refine (kG W4 hbw).mono ?_
 rintro e w5 ⟨A5, c5, rfl, hown5, hb5⟩
 have hS5 : StrsV w5 w5.heap.size (.slice A5 (rGet A f.name).length (rGet A f.name).length) (rGet A f.name) := CutS.read (base := W4.heap.size) ⟨A5, c5, _, rfl, Nat.le_refl _, hown5⟩
 have hbw5 := hbw.trans (hb5.mono hbw.size)
 have hH := hasF_any 82 #[.pointer (some ⟨w.heap.size, 0, none⟩), .pointer (some ⟨w3.heap.size, 0, none⟩), .pointer (some ⟨w.heap.size + 1, 0, none⟩)] fn_m3 (fun x => satF s ty f.kind f.name f.value f.parts x) _ (rGet A f.name) w5 hS5 (by have := kgl.1; omega) fun V x hx hV =>
  have hbV := hb5.trans (hV.mono hb5.size)
  match3_any w.heap.size w3.heap.size (w.heap.size + 1) _ _ _ _ _ _ _ _ _ _ x _ V (cell_later hbV s0) (cell_later hbV s1) (cell_later hbV t0) (cell_later hbV t1) (cell_later hbV t2) (cell_later hbV b0) (cell_later hbV b1) (cell_later hbV b2) (cell_later hbV b3) (cell_later hbV b4) (kSat tn ty ts x (kgl.2 x hx) V (hbw5.trans (hV.mono hbw5.size)))
 rw [← HR3.out] at hH
 clear HR3 kG kSat hown5 hS5 kgl hp ha
 go_wp2_with fail
 refine hH.mono ?_
 rintro e w6 ⟨rfl, hb6⟩
 go_wp2_with fail
 go_ret
 exact ⟨rfl, hbw5.trans (hb6.mono hbw5.size)⟩
theorem fMatch_any (d : Nat) (u : Value) (s : Idn.Sch) (v : Value) (f : Flt) (nm : ByteArray) (av : Value) (A : List Idn.Att) (w : World) (hu : SchV w w.heap.size u s) (hs : SSm s) (hE : Env w) (hU : EnvU w) (ha : AttsV w w.heap.size av A) (hA : AGet A) (hv : FltV w w.heap.size d v f) (hsm : FSm 1000 f) :
  Calls Tryz.prog 22 #[u, v, .agg #[.string nm, av]] w fun e w' => e = .returned (.bool (fMatch s A f)) ∧ Below w.heap.size w w' := by
 have kC := fun W (hW : Below w.heap.size w W) => fCheck_any d _ f W (hv.on hW) hsm
 have kM := fun (hz : fCheck f = 0) W (hW : Below w.heap.size w W) => match_any d u s v f nm av A W (SchV.mono (SchV.keep hu hW) hW.size) hs (hE.keep hW) (hU.keep hW) (AttsV.mono (AttsV.keep ha hW) hW.size) hA (hv.on hW) hsm (fCheck_zero.1 hz).2.2
 obtain ⟨Ap, cp, Ak, ck, rfl, hp, hk⟩ := hv.shape
 obtain ⟨sa, sb, rfl, hT, hC⟩ := hu
 obtain ⟨A1, c1, rfl, _⟩ := SlV.shape hT
 obtain ⟨A2, c2, rfl, _⟩ := SlV.shape hC
 obtain ⟨A3, c3, rfl, _⟩ := SlV.shape ha
 have HR : Hid (fMatch s A f = (decide (fCheck f = 0) && fMat s A f)) := rfl
 generalize fMatch s A f = R at *
 generalize fMat s A f = m at *
 generalize fCheck f = ec at *
 clear hT hC hp hk hv ha hA hE hU hs hsm
 go_enter Tryz.func22, Tryz.ntmps22
 go_upto_region 1 with fail
 with_reducible refine gen3 (R := fun W => Code.wp Tryz.prog _ _ _ W) ?_
 intro W hbW hszW hc1 hc2 hc3 _
 have s0 : W.cell? ⟨w.heap.size, 0, none⟩ = some (.slice A1 s.types.length c1) := hc1 0 _ rfl
 have s1 : W.cell? ⟨w.heap.size, 1, none⟩ = some (.slice A2 s.classes.length c2) := hc1 1 _ rfl
 have b0 : W.cell? ⟨w.heap.size + 1, 0, none⟩ = some (.int .i64 f.kind) := hc2 0 _ rfl
 have b1 : W.cell? ⟨w.heap.size + 1, 1, none⟩ = some (.string (B f.name)) := hc2 1 _ rfl
 have b2 : W.cell? ⟨w.heap.size + 1, 2, none⟩ = some (.string (B f.value)) := hc2 2 _ rfl
 have b3 : W.cell? ⟨w.heap.size + 1, 3, none⟩ = some (.slice Ap f.parts.length cp) := hc2 3 _ rfl
 have b4 : W.cell? ⟨w.heap.size + 1, 4, none⟩ = some (.slice Ak f.kids.length ck) := hc2 4 _ rfl
 have e0 : W.cell? ⟨w.heap.size + 1 + 1, 0, none⟩ = some (.string nm) := hc3 0 _ rfl
 have e1 : W.cell? ⟨w.heap.size + 1 + 1, 1, none⟩ = some (.slice A3 A.length c3) := hc3 1 _ rfl
 clear hc1 hc2 hc3 hszW
 go_wp2_with fail
 refine (kC W hbW).mono ?_
 rintro e w1 ⟨rfl, hb1⟩
 have hb := hbW.trans (hb1.mono hbW.size)
 replace s0 := cell_later hb1 s0
 replace s1 := cell_later hb1 s1
 replace b0 := cell_later hb1 b0
 replace b1 := cell_later hb1 b1
 replace b2 := cell_later hb1 b2
 replace b3 := cell_later hb1 b3
 replace b4 := cell_later hb1 b4
 replace e0 := cell_later hb1 e0
 replace e1 := cell_later hb1 e1
 clear kC hb1 hbW
 by_cases hec : ec = 0
 ·have hI : (ec == 0) = true := beq_iff_eq.2 hec
  have HF : Hid (R = m) := by show _ = _; rw [HR.out, decide_eq_true hec]; rfl
  have hM := kM hec w1 hb
  clear HR kM hec
  go_wp2_with fail
  refine hM.mono ?_
  rintro e w2 ⟨rfl, hb2⟩
  go_wp2_with fail
  go_ret
  exact ⟨ret_bool HF.out.symm, hb.trans (hb2.mono hb.size)⟩
 ·have hI : (ec == 0) = false := beq_eq_false_iff_ne.2 hec
  have HF : Hid (R = false) := by show _ = _; rw [HR.out, decide_eq_false hec]; rfl
  clear HR kM hec
  go_wp2_with fail
  go_ret
  exact ⟨ret_bool HF.out.symm, hb⟩
end Go.Proofs.YtmamnmjfbadiiaaGreatDoor
/- law09: live. -/
namespace Go.Proofs.YtmamnmjfbadiiaaGreatDoor
open Go.RowKit Go.Sort
open Idn (L B Bs drop_L take_L size_L)
theorem aget_of {A : List Idn.Att} (h : Idn.ASm7 A) (hx : ∀ a ∈ A, ∀ x ∈ a.vals, x.length ≤ 100000000) : AGet A := ⟨h, fun n => ⟨rGet_len h n, rGet_all hx n⟩⟩
namespace E9
theorem ann_get : AGet annL := aget_of ann_asm (by unfold annL; decide)
theorem fsm1 : FSm 400 F1 := sm1.up (by decide)
theorem fsm2 : FSm 400 F2 := ⟨by decide, by unfold F2; simp [fOk, fOks]⟩
theorem fsm3 : FSm 400 F3 := ⟨by decide, by unfold F3; simp [fOk, fOks]⟩
theorem fsm4 : FSm 400 F4 := ⟨by decide, by unfold F4 eqF; simp [fOk, fOks, E8.cnN]⟩
theorem fsm5 : FSm 400 F5 := ⟨by decide, by unfold F5 eqF notF; simp [fOk, fOks]⟩
theorem fsm6 : FSm 400 F6 := ⟨by decide, by unfold F6 eqF notF; simp [fOk, fOks]⟩
theorem fsm7 : FSm 400 F7 := ⟨by decide, by unfold F7; simp [fOk, fOks, E8.cnN]⟩
theorem fsm8 : FSm 400 F8 := ⟨by decide, by unfold F8; simp [fOk, fOks, ageN]⟩
theorem fsm9 : FSm 400 F9 := ⟨by decide, by unfold F9 eqF; simp [fOk, fOks, E8.cnN]⟩
theorem fsm0 : FSm 400 F0 := ⟨by decide, by unfold F0; simp [fOk, fOks]⟩
theorem ne13 : F1 ≠ F3 := by unfold F1 F3; simp
end E9
def RetX (w : World) (d : Nat) (f : Flt) (er : Int) (e : Ending) (w' : World) : Prop := ∃ r, e = .returned (.tuple #[r, .int .i64 er]) ∧ FltV w' w'.heap.size d r f ∧ Below w.heap.size w w'
theorem parse_at (f g : Flt) (s : ByteArray) (er : Int) (w : World) (hs : s = B (fTxt f)) (hok : rdOk f) (hsm : FSm 400 f) (hl : (fTxt f).length ≤ 4096) (hc : fCheck f = er) (hg : (if er = 0 then f else F00) = g) : Calls Tryz.prog 18 #[.string s] w (RetX w (fDep f) g er) := by
 refine (fParse_any f s w hs hok (hsm.up (by decide)) hl).mono ?_
 rintro e w' ⟨r, rfl, h1, h2⟩
 rw [hc] at h1 ⊢
 rw [hg] at h1
 exact ⟨r, rfl, h1.now, h2⟩
theorem FltC.of {w : World} {hi d : Nat} {f : Flt} {Ap Ak : Option Addr} {np cp nk ck : Nat} {k : Int} {n v : ByteArray} (h : FltV w hi d (.agg #[.int .i64 k, .string n, .string v, .slice Ap np cp, .slice Ak nk ck]) f) : FltC w hi (d + 1) f [.int .i64 k, .string n, .string v, .slice Ap np cp, .slice Ak nk ck] := by
 obtain ⟨pv, kv, e, hp, hk⟩ := h
 simp at e
 obtain ⟨rfl, rfl, rfl, rfl, rfl⟩ := e
 exact ⟨_, _, rfl, hp, hk⟩
theorem F_shape {w : World} {d : Nat} {v : Value} {f : Flt} (h : FltV w w.heap.size d v f) : ∃ Ap cp Ak ck, v = .agg #[.int .i64 f.kind, .string (B f.name), .string (B f.value), .slice Ap f.parts.length cp, .slice Ak f.kids.length ck] := by
 obtain ⟨Ap, cp, Ak, ck, h, _, _⟩ := h.shape
 exact ⟨Ap, cp, Ak, ck, h⟩
theorem live9_any (w : World) (hE : Env w) (hU : EnvU w) :
    Calls Tryz.prog 11 #[] w fun e w' => e = .returned (.bool true) ∧ Below w.heap.size w w' := by
  have c1 : Calls Tryz.prog 18 #[.string ⟨#[40, 38, 40, 99, 108, 97, 115, 115, 61, 112, 101, 114, 115, 111, 110, 41, 40, 33, 40, 109, 97, 105, 108, 61, 42, 41, 41, 41]⟩] w _ := parse_at E9.F1 E9.F1 ⟨#[40, 38, 40, 99, 108, 97, 115, 115, 61, 112, 101, 114, 115, 111, 110, 41, 40, 33, 40, 109, 97, 105, 108, 61, 42, 41, 41, 41]⟩ 0 w (by rw [E9.ev_t1]; rfl) E9.ev_r1 E9.fsm1 (by rw [E9.ev_t1]; decide) E9.ev_c1 rfl
  have c2 := fun W => show Calls Tryz.prog 18 #[.string ⟨#[40, 97, 61, 98, 42, 42, 99, 41]⟩] W _ from parse_at E9.F2 F00 ⟨#[40, 97, 61, 98, 42, 42, 99, 41]⟩ 4 W (by rw [E9.ev_t2]; rfl) E9.ev_r2 E9.fsm2 (by rw [E9.ev_t2]; decide) E9.ev_c2 rfl
  have c3 := fun W => show Calls Tryz.prog 18 #[.string ⟨#[40, 97, 61, 42, 98, 42, 41]⟩] W _ from parse_at E9.F3 E9.F3 ⟨#[40, 97, 61, 42, 98, 42, 41]⟩ 0 W (by rw [E9.ev_t3]; rfl) E9.ev_r3 E9.fsm3 (by rw [E9.ev_t3]; decide) E9.ev_c3 rfl
  go_enter Tryz.func11, Tryz.ntmps11
  go_wp2_with fail
  refine c1.mono ?_
  rintro e w1 ⟨r1, rfl, hF1, hb1⟩
  obtain ⟨P1, cp1, K1, ck1, hr1⟩ := F_shape hF1
  subst hr1
  clear c1
  go_upto_region 2 with fail
  with_reducible refine gen1 (R := fun W => Code.wp Tryz.prog _ _ _ W) ?_
  intro W1 hbW1 hsW1 hc1 _
  have a0 : W1.cell? ⟨w1.heap.size, 0, none⟩ = some (.int .i64 E9.F1.kind) := hc1 0 _ rfl
  have a1 : W1.cell? ⟨w1.heap.size, 1, none⟩ = some (.string (B E9.F1.name)) := hc1 1 _ rfl
  have a2 : W1.cell? ⟨w1.heap.size, 2, none⟩ = some (.string (B E9.F1.value)) := hc1 2 _ rfl
  have a3 : W1.cell? ⟨w1.heap.size, 3, none⟩ = some (.slice P1 E9.F1.parts.length cp1) := hc1 3 _ rfl
  have a4 : W1.cell? ⟨w1.heap.size, 4, none⟩ = some (.slice K1 E9.F1.kids.length ck1) := hc1 4 _ rfl
  replace hF1 := hF1.on hbW1
  replace hb1 := hb1.trans (hbW1.mono hb1.size)
  clear hc1 hsW1 hbW1
  go_wp2_with fail
  refine (c2 W1).mono ?_
  rintro e w2 ⟨r2, rfl, hF2, hb2⟩
  obtain ⟨P2, cp2, K2, ck2, hr2⟩ := F_shape hF2
  subst hr2
  clear c2 hF2
  go_upto_region 3 with fail
  with_reducible refine gen1 (R := fun W => Code.wp Tryz.prog _ _ _ W) ?_
  intro W2 hbW2 _ _ _
  replace hb2 := hb2.trans (hbW2.mono hb2.size)
  clear hbW2
  go_wp2_with fail
  refine (c3 W2).mono ?_
  rintro e w3 ⟨r3, rfl, hF3, hb3⟩
  obtain ⟨P3, cp3, K3, ck3, hr3⟩ := F_shape hF3
  subst hr3
  clear c3
  go_upto_region 4 with fail
  with_reducible refine gen1 (R := fun W => Code.wp Tryz.prog _ _ _ W) ?_
  intro W3 hbW3 hsW3 hc3 _
  have b0 : W3.cell? ⟨w3.heap.size, 0, none⟩ = some (.int .i64 E9.F3.kind) := hc3 0 _ rfl
  have b1 : W3.cell? ⟨w3.heap.size, 1, none⟩ = some (.string (B E9.F3.name)) := hc3 1 _ rfl
  have b2 : W3.cell? ⟨w3.heap.size, 2, none⟩ = some (.string (B E9.F3.value)) := hc3 2 _ rfl
  have b3 : W3.cell? ⟨w3.heap.size, 3, none⟩ = some (.slice P3 E9.F3.parts.length cp3) := hc3 3 _ rfl
  have b4 : W3.cell? ⟨w3.heap.size, 4, none⟩ = some (.slice K3 E9.F3.kids.length ck3) := hc3 4 _ rfl
  replace hF3 := hF3.on hbW3
  replace hb3 := hb3.trans (hbW3.mono hb3.size)
  have hb13 : Below W1.heap.size W1 W3 := hb2.trans (hb3.mono hb2.size)
  have hbw3 := hb1.trans (hb13.mono hb1.size)
  replace hF1 := hF1.on hb13
  replace a0 := cell_later hb13 a0
  replace a1 := cell_later hb13 a1
  replace a2 := cell_later hb13 a2
  replace a3 := cell_later hb13 a3
  replace a4 := cell_later hb13 a4
  clear hc3 hsW3 hbW3 hb13 hb2 hb3 hb1
  have x4 := fun W => show Calls Tryz.prog 16 #[.agg #[.int .i64 4, .string ⟨#[99, 110]⟩, .string ⟨#[97, 42, 98]⟩, .slice none 0 0, .slice none 0 0]] W fun e w' => e = .returned (.tuple #[.string ⟨#[40, 99, 110, 61, 97, 92, 50, 97, 98, 41]⟩, .int .i64 0]) ∧ Below W.heap.size W w' from by
    have h := fText_any 0 (.agg #[.int .i64 4, .string (B E8.cnN), .string (B [97, 42, 98]), .slice none 0 0, .slice none 0 0]) E9.F4 W (eqF_read _ _ _ _ _) (E9.fsm4.up (by decide))
    rw [E9.ev_x4] at h
    exact h
  go_wp2_with fail
  refine (equal9_any _ _ W3).mono ?_
  rintro e w4 ⟨rfl, hb4⟩
  go_wp2_with fail
  refine (x4 w4).mono ?_
  rintro e w5 ⟨rfl, hb5⟩
  replace hb4 := hb4.trans (hb5.mono hb4.size)
  clear x4 hb5
  go_upto_region 6 with fail
  with_reducible refine genW (R := fun W => Code.wp Tryz.prog _ _ _ W) (Q := fun W => (W.cell? ⟨w5.heap.size + 1 + 1 + 1 + 1, 0, none⟩ = some (.string ⟨#[99, 110, 61, 97, 110, 110]⟩) ∧ W.cell? ⟨w5.heap.size + 1 + 1 + 1 + 1, 1, none⟩ = some (.slice (some ⟨w5.heap.size + 1 + 1 + 1, 0, none⟩) 3 3)) ∧
    AttsV W W.heap.size (.slice (some ⟨w5.heap.size + 1 + 1 + 1, 0, none⟩) 3 3) E9.annL ∧ Below w5.heap.size w5 W) ?_ ?_
  · refine ⟨⟨?_, ?_⟩, ?_, ?_⟩
    · refine Eq.trans (World.ownsRow.cellAt (n := 1) (size := 2) (litR _ _ 1 2 _ _ (by simp) (by decide) rfl) 0 (by decide)) ?_
      rfl
    · refine Eq.trans (World.ownsRow.cellAt (n := 1) (size := 2) (litR _ _ 1 2 _ _ (by simp) (by decide) rfl) 1 (by decide)) ?_
      rfl
    · refine SlV.own ((litR _ _ 3 2 _ _ (by simp) (by decide) rfl).alloc _) fun i x hx => ?_
      match i, hx with
      | 0, hx =>
        injection hx with hx; subst hx
        exact ⟨[sv Idn.mainN, .slice (some ⟨w5.heap.size, 0, none⟩) 1 1], rfl, ⟨_, rfl, oneS (((((litR _ _ 1 1 _ _ rfl (by decide) rfl).alloc _).alloc _).alloc _).alloc _)⟩, fun j u hj => by match j, hj with | 0, hj => exact hj | 1, hj => exact hj⟩
      | 1, hx =>
        injection hx with hx; subst hx
        exact ⟨[sv E8.cnN, .slice (some ⟨w5.heap.size + 1, 0, none⟩) 1 1], rfl, ⟨_, rfl, oneS ((((litR _ _ 1 1 _ _ (by simp) (by decide) rfl).alloc _).alloc _).alloc _)⟩, fun j u hj => by match j, hj with | 0, hj => exact hj | 1, hj => exact hj⟩
      | 2, hx =>
        injection hx with hx; subst hx
        exact ⟨[sv E9.ageN, .slice (some ⟨w5.heap.size + 1 + 1, 0, none⟩) 1 1], rfl, ⟨_, rfl, oneS (((litR _ _ 1 1 _ _ (by simp) (by decide) rfl).alloc _).alloc _)⟩, fun j u hj => by match j, hj with | 0, hj => exact hj | 1, hj => exact hj⟩
    · repeat (first | with_reducible exact Below.refl _ _ | with_reducible refine Below.lay ?_ _)
  rintro W5 ⟨⟨n0, n1⟩, hAnn, hbW5⟩
  replace hb4 := hb4.trans (hbW5.mono hb4.size)
  clear hbW5
  generalize w5.heap.size + 1 + 1 + 1 + 1 = p9 at *
  generalize w5.heap.size + 1 + 1 + 1 = p8 at *
  go_wp2_with fail
  refine (equal9_any _ _ W5).mono ?_
  rintro e w6 ⟨rfl, hb6⟩
  go_wp2_with fail
  refine (equal9_any _ _ w6).mono ?_
  rintro e w7 ⟨rfl, hb7⟩
  have y1 := fun W => show Calls Tryz.prog 30 #[.agg #[.int .i64 4, .string ⟨#[98]⟩, .string ⟨#[50]⟩, .slice none 0 0, .slice none 0 0]] W _ from not9_any 0 _ (E9.eqF [98] [50]) W (eqF_read [98] [50] W W.heap.size 0)
  go_wp2_with fail
  refine (y1 w7).mono ?_
  rintro e w8 ⟨r8, rfl, hF8, hb8⟩
  obtain ⟨A8, c8, K8, k8, hr8⟩ := F_shape hF8
  subst hr8
  have hb58 : Below W5.heap.size W5 w8 := hb6.trans ((hb7.trans (hb8.mono hb7.size)).mono hb6.size)
  clear y1 hb6 hb7 hb8
  go_wp2_with fail
  with_reducible refine genW (R := fun W => Calls Tryz.prog 30 _ W _) (Q := fun W => FltV W W.heap.size 2 (.agg #[.int .i64 1, .string ⟨#[]⟩, .string ⟨#[]⟩, .slice none 0 0, .slice (some ⟨w8.heap.size, 0, none⟩) 2 2]) (.mk 1 [] [] [] [E9.eqF [97] [49], notF (E9.eqF [98] [50])]) ∧ Below w8.heap.size w8 W) ?_ ?_
  · refine ⟨⟨_, _, rfl, SlV.nil _ _ _ _, ?_⟩, by repeat (first | with_reducible exact Below.refl _ _ | with_reducible refine Below.lay ?_ _)⟩
    refine SlV.own (litR _ _ 2 5 _ _ rfl (by decide) rfl) fun i x hx => ?_
    match i, hx with
    | 0, hx =>
      injection hx with hx; subst hx
      exact ⟨[.int .i64 4, .string ⟨#[97]⟩, .string ⟨#[49]⟩, .slice none 0 0, .slice none 0 0], rfl, FltC.of (eqF_read [97] [49] _ _ 1), fun j u hj => by match j, hj with | 0, hj => exact hj | 1, hj => exact hj | 2, hj => exact hj | 3, hj => exact hj | 4, hj => exact hj⟩
    | 1, hx =>
      injection hx with hx; subst hx
      exact ⟨[.int .i64 (notF (E9.eqF [98] [50])).kind, .string (B (notF (E9.eqF [98] [50])).name), .string (B (notF (E9.eqF [98] [50])).value), .slice A8 (notF (E9.eqF [98] [50])).parts.length c8, .slice K8 (notF (E9.eqF [98] [50])).kids.length k8], rfl, FltC.of (hF8.on ((Below.refl _ _).alloc (Nat.le_refl _) _)), fun j u hj => by match j, hj with | 0, hj => exact hj | 1, hj => exact hj | 2, hj => exact hj | 3, hj => exact hj | 4, hj => exact hj⟩
  rintro W6 ⟨hG5, hbW6⟩
  refine (not9_any 2 _ _ W6 hG5).mono ?_
  rintro e w9 ⟨r9, rfl, hF9, hb9⟩
  replace hb58 := hb58.trans ((hbW6.trans (hb9.mono hbW6.size)).mono hb58.size)
  have hSm := simplify_any 3 _ E9.F5 w9 hF9 E9.fsm5
  rw [E9.ev_s5] at hSm
  clear hF8 hG5 hbW6 hb9
  obtain ⟨A9, c9, K9, k9, hr9⟩ := F_shape hF9
  subst hr9
  go_wp2_with fail
  refine hSm.mono ?_
  rintro e x1 ⟨r10, rfl, hN10, hx1⟩
  have hF10 := hN10.now
  obtain ⟨A1, d1, K0, k0, hr10⟩ := F_shape hF10
  subst hr10
  replace hb58 := hb58.trans (hx1.mono hb58.size)
  clear hSm hN10 hF9 hx1
  go_upto_region 7 with fail
  with_reducible refine gen1 (R := fun W => Code.wp Tryz.prog _ _ _ W) ?_
  intro X1 hbX1 hsX1 hc10 _
  have dd0 : X1.cell? ⟨x1.heap.size, 0, none⟩ = some (.int .i64 E9.F6.kind) := hc10 0 _ rfl
  have dd1c : X1.cell? ⟨x1.heap.size, 1, none⟩ = some (.string (B E9.F6.name)) := hc10 1 _ rfl
  have dd2 : X1.cell? ⟨x1.heap.size, 2, none⟩ = some (.string (B E9.F6.value)) := hc10 2 _ rfl
  have dd3 : X1.cell? ⟨x1.heap.size, 3, none⟩ = some (.slice A1 E9.F6.parts.length d1) := hc10 3 _ rfl
  have dd4 : X1.cell? ⟨x1.heap.size, 4, none⟩ = some (.slice K0 E9.F6.kids.length k0) := hc10 4 _ rfl
  have x6 := show Calls Tryz.prog 16 #[.agg #[.int .i64 E9.F6.kind, .string (B E9.F6.name), .string (B E9.F6.value), .slice A1 E9.F6.parts.length d1, .slice K0 E9.F6.kids.length k0]] X1 fun e w' => e = .returned (.tuple #[.string ⟨#[40, 124, 40, 33, 40, 97, 61, 49, 41, 41, 40, 98, 61, 50, 41, 41]⟩, .int .i64 0]) ∧ Below X1.heap.size X1 w' from by
    have h := fText_any 4 _ E9.F6 X1 (hF10.on hbX1) (E9.fsm6.up (by decide))
    rw [E9.ev_x6] at h
    exact h
  replace hb58 := hb58.trans (hbX1.mono hb58.size)
  clear hc10 hsX1 hbX1 hF10
  go_wp2_with fail
  refine x6.mono ?_
  rintro e x2 ⟨rfl, hx2⟩
  replace hb58 := hb58.trans (hx2.mono hb58.size)
  clear x6 hx2 dd0 dd1c dd2 dd3 dd4
  go_upto_region 9 with fail
  with_reducible refine genW (R := fun W => Code.wp Tryz.prog _ _ _ W) (Q := fun W => (W.cell? ⟨x2.heap.size + 1, 0, none⟩ = some (.int .i64 8) ∧ W.cell? ⟨x2.heap.size + 1, 1, none⟩ = some (.string ⟨#[99, 110]⟩) ∧ W.cell? ⟨x2.heap.size + 1, 2, none⟩ = some (.string ⟨#[]⟩) ∧ W.cell? ⟨x2.heap.size + 1, 3, none⟩ = some (.slice (some ⟨x2.heap.size, 0, none⟩) 2 2) ∧ W.cell? ⟨x2.heap.size + 1, 4, none⟩ = some (.slice none 0 0)) ∧
    FltV W W.heap.size 0 (.agg #[.int .i64 8, .string ⟨#[99, 110]⟩, .string ⟨#[]⟩, .slice (some ⟨x2.heap.size, 0, none⟩) 2 2, .slice none 0 0]) E9.F7 ∧ Below x2.heap.size x2 W) ?_ ?_
  · refine ⟨⟨?_, ?_, ?_, ?_, ?_⟩, ⟨_, _, rfl, ?_, SlV.nil _ _ _ _⟩, ?_⟩
    iterate 5
      · first
          | (refine Eq.trans (World.ownsRow.cellAt (n := 1) (size := 5) (litR _ _ 1 5 _ _ (by simp) (by decide) rfl) 0 (by decide)) ?_; rfl)
          | (refine Eq.trans (World.ownsRow.cellAt (n := 1) (size := 5) (litR _ _ 1 5 _ _ (by simp) (by decide) rfl) 1 (by decide)) ?_; rfl)
          | (refine Eq.trans (World.ownsRow.cellAt (n := 1) (size := 5) (litR _ _ 1 5 _ _ (by simp) (by decide) rfl) 2 (by decide)) ?_; rfl)
          | (refine Eq.trans (World.ownsRow.cellAt (n := 1) (size := 5) (litR _ _ 1 5 _ _ (by simp) (by decide) rfl) 3 (by decide)) ?_; rfl)
          | (refine Eq.trans (World.ownsRow.cellAt (n := 1) (size := 5) (litR _ _ 1 5 _ _ (by simp) (by decide) rfl) 4 (by decide)) ?_; rfl)
    · exact StrsV.of_own (l := [[97, 110, 110], [101, 101]]) ((litR _ _ 2 1 _ _ rfl (by decide) rfl).alloc _)
    · repeat (first | with_reducible exact Below.refl _ _ | with_reducible refine Below.lay ?_ _)
  rintro X3 ⟨⟨f0, f1, f2, f3, f4⟩, hF7, hbX3⟩
  replace hb58 := hb58.trans (hbX3.mono hb58.size)
  clear hbX3
  go_upto_region 10 with fail
  with_reducible refine gen1 (R := fun W => Code.wp Tryz.prog _ _ _ W) ?_
  intro X4 hbX4 hsX4 hc14 _
  have g0 : X4.cell? ⟨X3.heap.size, 0, none⟩ = some (.int .i64 5) := hc14 0 _ rfl
  have g1 : X4.cell? ⟨X3.heap.size, 1, none⟩ = some (.string ⟨#[97, 103, 101]⟩) := hc14 1 _ rfl
  have g2 : X4.cell? ⟨X3.heap.size, 2, none⟩ = some (.string ⟨#[57]⟩) := hc14 2 _ rfl
  have g3 : X4.cell? ⟨X3.heap.size, 3, none⟩ = some (.slice none 0 0) := hc14 3 _ rfl
  have g4 : X4.cell? ⟨X3.heap.size, 4, none⟩ = some (.slice none 0 0) := hc14 4 _ rfl
  replace hb58 := hb58.trans (hbX4.mono hb58.size)
  have hbA : Below W3.heap.size W3 X4 := hb4.trans (hb58.mono hb4.size)
  have hbZ : Below w.heap.size w X4 := hbw3.trans (hbA.mono hbw3.size)
  replace hF1 := hF1.on hbA
  replace hF3 := hF3.on hbA
  replace hF7 := hF7.on hbX4
  have hF8 : FltV X4 X4.heap.size 0 (.agg #[.int .i64 5, .string ⟨#[97, 103, 101]⟩, .string ⟨#[57]⟩, .slice none 0 0, .slice none 0 0]) E9.F8 := ⟨_, _, rfl, SlV.nil _ _ _ _, SlV.nil _ _ _ _⟩
  replace hAnn := AttsV.mono (AttsV.keep hAnn hb58) hb58.size
  replace n0 := cell_later hb58 n0
  replace n1 := cell_later hb58 n1
  replace a0 := cell_later hbA a0
  replace b0 := cell_later hbA b0
  replace f0 := cell_later hbX4 f0
  replace a1 := cell_later hbA a1
  replace b1 := cell_later hbA b1
  replace f1 := cell_later hbX4 f1
  replace a2 := cell_later hbA a2
  replace b2 := cell_later hbA b2
  replace f2 := cell_later hbX4 f2
  replace a3 := cell_later hbA a3
  replace b3 := cell_later hbA b3
  replace f3 := cell_later hbX4 f3
  replace a4 := cell_later hbA a4
  replace b4 := cell_later hbA b4
  replace f4 := cell_later hbX4 f4
  clear hc14 hsX4 hbX4 hbA hb58 hb4 hbw3
  generalize w1.heap.size = q1 at *
  generalize w3.heap.size = q3 at *
  generalize x2.heap.size + 1 = q13 at *
  generalize X3.heap.size = q14 at *
  have dN := fun W (hW : Below X4.heap.size X4 W) => show Calls Tryz.prog 14 #[.agg #[.int .i64 E9.F1.kind, .string (B E9.F1.name), .string (B E9.F1.value), .slice P1 E9.F1.parts.length cp1, .slice K1 E9.F1.kids.length ck1]] W fun e w' => e = .returned (.int .i64 4) ∧ Below W.heap.size W w' from by
    have h := nodes_any _ _ E9.F1 W (hF1.on hW) (E9.fsm1.up (by decide))
    rw [E9.ev_k1] at h
    exact h
  have dM1 := fun u W (hW : Below X4.heap.size X4 W) (hu : SchV W W.heap.size u E9.personS) => show Calls Tryz.prog 22 #[u, .agg #[.int .i64 E9.F1.kind, .string (B E9.F1.name), .string (B E9.F1.value), .slice P1 E9.F1.parts.length cp1, .slice K1 E9.F1.kids.length ck1], .agg #[.string ⟨#[99, 110, 61, 97, 110, 110]⟩, .slice (some ⟨p8, 0, none⟩) 3 3]] W fun e w' => e = .returned (.bool true) ∧ Below W.heap.size W w' from by
    have h := fMatch_any _ u E9.personS _ E9.F1 ⟨#[99, 110, 61, 97, 110, 110]⟩ _ E9.annL W hu E9.person_ssm (hE.keep (hbZ.trans (hW.mono hbZ.size))) (hU.keep (hbZ.trans (hW.mono hbZ.size))) (AttsV.mono (AttsV.keep hAnn hW) hW.size) E9.ann_get (hF1.on hW) (E9.fsm1.up (by decide))
    rw [E9.ev_m1] at h
    exact h
  have dM2 := fun u W (hW : Below X4.heap.size X4 W) (hu : SchV W W.heap.size u E9.personS) => show Calls Tryz.prog 22 #[u, .agg #[.int .i64 8, .string ⟨#[99, 110]⟩, .string ⟨#[]⟩, .slice (some ⟨x2.heap.size, 0, none⟩) 2 2, .slice none 0 0], .agg #[.string ⟨#[99, 110, 61, 97, 110, 110]⟩, .slice (some ⟨p8, 0, none⟩) 3 3]] W fun e w' => e = .returned (.bool true) ∧ Below W.heap.size W w' from by
    have h := fMatch_any _ u E9.personS _ E9.F7 ⟨#[99, 110, 61, 97, 110, 110]⟩ _ E9.annL W hu E9.person_ssm (hE.keep (hbZ.trans (hW.mono hbZ.size))) (hU.keep (hbZ.trans (hW.mono hbZ.size))) (AttsV.mono (AttsV.keep hAnn hW) hW.size) E9.ann_get (hF7.on hW) (E9.fsm7.up (by decide))
    rw [E9.ev_m7] at h
    exact h
  have dM3 := fun u W (hW : Below X4.heap.size X4 W) (hu : SchV W W.heap.size u E9.personS) => show Calls Tryz.prog 22 #[u, .agg #[.int .i64 5, .string ⟨#[97, 103, 101]⟩, .string ⟨#[57]⟩, .slice none 0 0, .slice none 0 0], .agg #[.string ⟨#[99, 110, 61, 97, 110, 110]⟩, .slice (some ⟨p8, 0, none⟩) 3 3]] W fun e w' => e = .returned (.bool true) ∧ Below W.heap.size W w' from by
    have h := fMatch_any _ u E9.personS _ E9.F8 ⟨#[99, 110, 61, 97, 110, 110]⟩ _ E9.annL W hu E9.person_ssm (hE.keep (hbZ.trans (hW.mono hbZ.size))) (hU.keep (hbZ.trans (hW.mono hbZ.size))) (AttsV.mono (AttsV.keep hAnn hW) hW.size) E9.ann_get (hF8.on hW) (E9.fsm8.up (by decide))
    rw [E9.ev_m8] at h
    exact h
  have dM4 := fun u W (hW : Below X4.heap.size X4 W) (hu : SchV W W.heap.size u E9.personS) => show Calls Tryz.prog 22 #[u, .agg #[.int .i64 4, .string ⟨#[99, 110]⟩, .string ⟨#[98, 111, 98]⟩, .slice none 0 0, .slice none 0 0], .agg #[.string ⟨#[99, 110, 61, 97, 110, 110]⟩, .slice (some ⟨p8, 0, none⟩) 3 3]] W fun e w' => e = .returned (.bool false) ∧ Below W.heap.size W w' from by
    have h := fMatch_any 0 u E9.personS _ E9.F9 ⟨#[99, 110, 61, 97, 110, 110]⟩ _ E9.annL W hu E9.person_ssm (hE.keep (hbZ.trans (hW.mono hbZ.size))) (hU.keep (hbZ.trans (hW.mono hbZ.size))) (AttsV.mono (AttsV.keep hAnn hW) hW.size) E9.ann_get (eqF_read E8.cnN [98, 111, 98] W W.heap.size 0) (E9.fsm9.up (by decide))
    rw [E9.ev_m9] at h
    exact h
  have dNm := fun W (hW : Below X4.heap.size X4 W) => show Calls Tryz.prog 25 #[.agg #[.int .i64 E9.F1.kind, .string (B E9.F1.name), .string (B E9.F1.value), .slice P1 E9.F1.parts.length cp1, .slice K1 E9.F1.kids.length ck1]] W (RetL W (fNames E9.F1)) from fNames_any _ _ E9.F1 W (hF1.on hW) (E9.fsm1.up (by decide))
  have dE1 := fun W (hW : Below X4.heap.size X4 W) => show Calls Tryz.prog 27 #[.agg #[.int .i64 E9.F1.kind, .string (B E9.F1.name), .string (B E9.F1.value), .slice P1 E9.F1.parts.length cp1, .slice K1 E9.F1.kids.length ck1], .agg #[.int .i64 E9.F1.kind, .string (B E9.F1.name), .string (B E9.F1.value), .slice P1 E9.F1.parts.length cp1, .slice K1 E9.F1.kids.length ck1]] W fun e w' => e = .returned (.bool true) ∧ Below W.heap.size W w' from fEqual_any _ _ _ _ E9.F1 E9.F1 true W (hF1.on hW) (hF1.on hW) (E9.fsm1.up (by decide)) (E9.fsm1.up (by decide)) (iff_of_true rfl rfl)
  have dE2 := fun W (hW : Below X4.heap.size X4 W) => show Calls Tryz.prog 27 #[.agg #[.int .i64 E9.F1.kind, .string (B E9.F1.name), .string (B E9.F1.value), .slice P1 E9.F1.parts.length cp1, .slice K1 E9.F1.kids.length ck1], .agg #[.int .i64 E9.F3.kind, .string (B E9.F3.name), .string (B E9.F3.value), .slice P3 E9.F3.parts.length cp3, .slice K3 E9.F3.kids.length ck3]] W fun e w' => e = .returned (.bool false) ∧ Below W.heap.size W w' from fEqual_any _ _ _ _ E9.F1 E9.F3 false W (hF1.on hW) (hF3.on hW) (E9.fsm1.up (by decide)) (E9.fsm3.up (by decide)) (iff_of_false nofun E9.ne13)
  have dC1 := fun W (hW : Below X4.heap.size X4 W) => show Calls Tryz.prog 12 #[.agg #[.int .i64 E9.F1.kind, .string (B E9.F1.name), .string (B E9.F1.value), .slice P1 E9.F1.parts.length cp1, .slice K1 E9.F1.kids.length ck1]] W fun e w' => e = .returned (.int .i64 0) ∧ Below W.heap.size W w' from by
    have h := fCheck_any _ _ E9.F1 W (hF1.on hW) (E9.fsm1.up (by decide))
    rw [E9.ev_c1] at h
    exact h
  have dC0 := fun W => show Calls Tryz.prog 12 #[.agg #[.int .i64 0, .string ⟨#[]⟩, .string ⟨#[]⟩, .slice none 0 0, .slice none 0 0]] W fun e w' => e = .returned (.int .i64 4) ∧ Below W.heap.size W w' from by
    have h := fCheck_any 0 _ E9.F0 W (show FltV W W.heap.size 0 (.agg #[.int .i64 0, .string ⟨#[]⟩, .string ⟨#[]⟩, .slice none 0 0, .slice none 0 0]) E9.F0 from ⟨_, _, rfl, SlV.nil _ _ _ _, SlV.nil _ _ _ _⟩) (E9.fsm0.up (by decide))
    rw [E9.ev_c0] at h
    exact h
  have dEq := fun W => equal9_any ⟨#[99, 110]⟩ ⟨#[98, 111, 98]⟩ W
  have e3 : ((E9.F3.parts.length : Int) == 3) = true := rfl
  have en : (((fNames E9.F1).length : Int) == 2) = true := by rw [E9.ev_n1]; rfl
  have hSt : ∀ W', Below X4.heap.size X4 W' → W'.cell? ⟨q1, 0, none⟩ = some (.int .i64 E9.F1.kind) ∧ W'.cell? ⟨q1, 1, none⟩ = some (.string (B E9.F1.name)) ∧ W'.cell? ⟨q1, 2, none⟩ = some (.string (B E9.F1.value)) ∧ W'.cell? ⟨q1, 3, none⟩ = some (.slice P1 E9.F1.parts.length cp1) ∧ W'.cell? ⟨q1, 4, none⟩ = some (.slice K1 E9.F1.kids.length ck1) ∧ W'.cell? ⟨q3, 0, none⟩ = some (.int .i64 E9.F3.kind) ∧ W'.cell? ⟨q3, 1, none⟩ = some (.string (B E9.F3.name)) ∧ W'.cell? ⟨q3, 2, none⟩ = some (.string (B E9.F3.value)) ∧ W'.cell? ⟨q3, 3, none⟩ = some (.slice P3 E9.F3.parts.length cp3) ∧ W'.cell? ⟨q3, 4, none⟩ = some (.slice K3 E9.F3.kids.length ck3) ∧ W'.cell? ⟨p9, 0, none⟩ = some (.string ⟨#[99, 110, 61, 97, 110, 110]⟩) ∧ W'.cell? ⟨p9, 1, none⟩ = some (.slice (some ⟨p8, 0, none⟩) 3 3) ∧ W'.cell? ⟨q13, 0, none⟩ = some (.int .i64 8) ∧ W'.cell? ⟨q13, 1, none⟩ = some (.string ⟨#[99, 110]⟩) ∧ W'.cell? ⟨q13, 2, none⟩ = some (.string ⟨#[]⟩) ∧ W'.cell? ⟨q13, 3, none⟩ = some (.slice (some ⟨x2.heap.size, 0, none⟩) 2 2) ∧ W'.cell? ⟨q13, 4, none⟩ = some (.slice none 0 0) ∧ W'.cell? ⟨q14, 0, none⟩ = some (.int .i64 5) ∧ W'.cell? ⟨q14, 1, none⟩ = some (.string ⟨#[97, 103, 101]⟩) ∧ W'.cell? ⟨q14, 2, none⟩ = some (.string ⟨#[57]⟩) ∧ W'.cell? ⟨q14, 3, none⟩ = some (.slice none 0 0) ∧ W'.cell? ⟨q14, 4, none⟩ = some (.slice none 0 0) ∧ Below X4.heap.size X4 W' := fun W' hW =>
    ⟨cell_later hW a0, cell_later hW a1, cell_later hW a2, cell_later hW a3, cell_later hW a4, cell_later hW b0, cell_later hW b1, cell_later hW b2, cell_later hW b3, cell_later hW b4, cell_later hW n0, cell_later hW n1, cell_later hW f0, cell_later hW f1, cell_later hW f2, cell_later hW f3, cell_later hW f4, cell_later hW g0, cell_later hW g1, cell_later hW g2, cell_later hW g3, cell_later hW g4, hW⟩
  clear hF1 hF3 hF7 hF8 hAnn hE hU a0 a1 a2 a3 a4 b0 b1 b2 b3 b4 n0 n1 f0 f1 f2 f3 f4 g0 g1 g2 g3 g4
  go_wp2_with fail
  dsimp only [List.append]
  refine wp_region_held_drew (S := fun W' => W'.cell? ⟨q1, 0, none⟩ = some (.int .i64 E9.F1.kind) ∧ W'.cell? ⟨q1, 1, none⟩ = some (.string (B E9.F1.name)) ∧ W'.cell? ⟨q1, 2, none⟩ = some (.string (B E9.F1.value)) ∧ W'.cell? ⟨q1, 3, none⟩ = some (.slice P1 E9.F1.parts.length cp1) ∧ W'.cell? ⟨q1, 4, none⟩ = some (.slice K1 E9.F1.kids.length ck1) ∧ W'.cell? ⟨q3, 0, none⟩ = some (.int .i64 E9.F3.kind) ∧ W'.cell? ⟨q3, 1, none⟩ = some (.string (B E9.F3.name)) ∧ W'.cell? ⟨q3, 2, none⟩ = some (.string (B E9.F3.value)) ∧ W'.cell? ⟨q3, 3, none⟩ = some (.slice P3 E9.F3.parts.length cp3) ∧ W'.cell? ⟨q3, 4, none⟩ = some (.slice K3 E9.F3.kids.length ck3) ∧ W'.cell? ⟨p9, 0, none⟩ = some (.string ⟨#[99, 110, 61, 97, 110, 110]⟩) ∧ W'.cell? ⟨p9, 1, none⟩ = some (.slice (some ⟨p8, 0, none⟩) 3 3) ∧ W'.cell? ⟨q13, 0, none⟩ = some (.int .i64 8) ∧ W'.cell? ⟨q13, 1, none⟩ = some (.string ⟨#[99, 110]⟩) ∧ W'.cell? ⟨q13, 2, none⟩ = some (.string ⟨#[]⟩) ∧ W'.cell? ⟨q13, 3, none⟩ = some (.slice (some ⟨x2.heap.size, 0, none⟩) 2 2) ∧ W'.cell? ⟨q13, 4, none⟩ = some (.slice none 0 0) ∧ W'.cell? ⟨q14, 0, none⟩ = some (.int .i64 5) ∧ W'.cell? ⟨q14, 1, none⟩ = some (.string ⟨#[97, 103, 101]⟩) ∧ W'.cell? ⟨q14, 2, none⟩ = some (.string ⟨#[57]⟩) ∧ W'.cell? ⟨q14, 3, none⟩ = some (.slice none 0 0) ∧ W'.cell? ⟨q14, 4, none⟩ = some (.slice none 0 0) ∧ Below X4.heap.size X4 W') (by kernel_rfl) ?_ (fun hHeld => ?_)
  · (try dsimp only); refine hSt _ ?_; repeat (first | with_reducible exact Below.refl _ _ | with_reducible apply Below.drew)
  refine wpAnyH_take (i := 0) (oi := ⟨_, _, _, _, _, _⟩) (v := ?v0) rfl (by kernel_rfl) (by kernel_rfl) (by kernel_rfl) (fun _ _ _ h => h) (Or.inl ⟨by rfl, ?h0⟩) (by assumption) ?r0
  rotate_left 1
  · (intro w hSw; (try dsimp only at hSw); go_simp; (try with_reducible rfl))
  try simp only [Act.put, List.setIfInBounds_toArray, List.set_cons_zero, List.set_cons_succ]
  refine wpAnyH_take (i := 1) (oi := ⟨_, _, _, _, _, _⟩) (v := ?v1) rfl (by kernel_rfl) (by kernel_rfl) (by kernel_rfl) (fun _ _ _ h => h) (Or.inl ⟨by rfl, ?h1⟩) (by assumption) ?r1
  rotate_left 1
  · (intro w hSw; (try dsimp only at hSw); go_simp; (try with_reducible rfl))
  try simp only [Act.put, List.setIfInBounds_toArray, List.set_cons_zero, List.set_cons_succ]
  refine wpAnyH_take (i := 2) (oi := ⟨_, _, _, _, _, _⟩) (v := ?v2) rfl (by kernel_rfl) (by kernel_rfl) (by kernel_rfl) (fun _ _ _ h => h) (Or.inl ⟨by rfl, ?h2⟩) (by assumption) ?r2
  rotate_left 1
  · (intro w hSw; (try dsimp only at hSw); go_simp; (try with_reducible rfl))
  try simp only [Act.put, List.setIfInBounds_toArray, List.set_cons_zero, List.set_cons_succ]
  refine wpAnyH_take (i := 3) (oi := ⟨_, _, _, _, _, _⟩) (v := ?v3) rfl (by kernel_rfl) (by kernel_rfl) (by kernel_rfl) (fun _ _ _ h => h) (Or.inl ⟨by rfl, ?h3⟩) (by assumption) ?r3
  rotate_left 1
  · (intro w hSw; (try dsimp only at hSw); go_simp; (try with_reducible rfl))
  try simp only [Act.put, List.setIfInBounds_toArray, List.set_cons_zero, List.set_cons_succ]
  refine wpAnyH_ready (rs := [4]) (by kernel_rfl) (by simp) ?_
  refine AllReadyH.cons (o := ⟨_, _, _, _, _, _⟩) rfl (fun K hK => ?_) AllReadyH.nil
  go_simp
  go_at_call 14; refine (dN _ (by repeat (first | with_reducible exact Below.refl _ _ | with_reducible apply Below.drew))).mono ?_; rintro e z0 ⟨rfl, ha0⟩
  try go_wp2_with fail
  refine hK.out _ _ ?_ (fun hHeld => ?_)
  · (try dsimp only); refine hSt _ ?_; repeat (first | with_reducible exact Below.refl _ _ | with_reducible apply Below.drew | with_reducible refine Below.on ?_ ha0)
  clear hK K
  try simp only [Act.put, List.setIfInBounds_toArray, List.set_cons_zero, List.set_cons_succ]
  as_aux_lemma =>
    refine wpAnyH_take (i := 5) (oi := ⟨_, _, _, _, _, _⟩) (v := ?v5) rfl (by kernel_rfl) (by kernel_rfl) (by kernel_rfl) (fun _ _ _ h => h) (Or.inl ⟨by rfl, ?h5⟩) (by assumption) ?r5
    rotate_left 1
    · (intro w hSw; (try dsimp only at hSw); go_simp; (try with_reducible rfl))
    try simp only [Act.put, List.setIfInBounds_toArray, List.set_cons_zero, List.set_cons_succ]
    refine wpAnyH_take (i := 6) (oi := ⟨_, _, _, _, _, _⟩) (v := ?v6) rfl (by kernel_rfl) (by kernel_rfl) (by kernel_rfl) (fun _ _ _ h => h) (Or.inl ⟨by rfl, ?h6⟩) (by assumption) ?r6
    rotate_left 1
    · (intro w hSw; (try dsimp only at hSw); go_simp; (try with_reducible rfl))
    try simp only [Act.put, List.setIfInBounds_toArray, List.set_cons_zero, List.set_cons_succ]
    refine wpAnyH_take (i := 7) (oi := ⟨_, _, _, _, _, _⟩) (v := ?v7) rfl (by kernel_rfl) (by kernel_rfl) (by kernel_rfl) (fun _ _ _ h => h) (Or.inl ⟨by rfl, ?h7⟩) (by assumption) ?r7
    rotate_left 1
    · (intro w hSw; (try dsimp only at hSw); go_simp; (try with_reducible rfl))
    try simp only [Act.put, List.setIfInBounds_toArray, List.set_cons_zero, List.set_cons_succ]
    refine wpAnyH_take (i := 8) (oi := ⟨_, _, _, _, _, _⟩) (v := ?v8) rfl (by kernel_rfl) (by kernel_rfl) (by kernel_rfl) (fun _ _ _ h => h) (Or.inl ⟨by rfl, ?h8⟩) (by assumption) ?r8
    rotate_left 1
    · (intro w hSw; (try dsimp only at hSw); go_simp; (try with_reducible rfl))
    try simp only [Act.put, List.setIfInBounds_toArray, List.set_cons_zero, List.set_cons_succ]
    refine wpAnyH_take (i := 9) (oi := ⟨_, _, _, _, _, _⟩) (v := ?v9) rfl (by kernel_rfl) (by kernel_rfl) (by kernel_rfl) (fun _ _ _ h => h) (Or.inl ⟨by rfl, ?h9⟩) (by assumption) ?r9
    rotate_left 1
    · (intro w hSw; (try dsimp only at hSw); go_simp; (try with_reducible rfl))
    try simp only [Act.put, List.setIfInBounds_toArray, List.set_cons_zero, List.set_cons_succ]
    refine wpAnyH_take (i := 10) (oi := ⟨_, _, _, _, _, _⟩) (v := ?v10) rfl (by kernel_rfl) (by kernel_rfl) (by kernel_rfl) (fun _ _ _ h => h) (Or.inl ⟨by rfl, ?h10⟩) (by assumption) ?r10
    rotate_left 1
    · (intro w hSw; (try dsimp only at hSw); go_simp; (try with_reducible rfl))
    try simp only [Act.put, List.setIfInBounds_toArray, List.set_cons_zero, List.set_cons_succ]
    refine wpAnyH_take (i := 11) (oi := ⟨_, _, _, _, _, _⟩) (v := ?v11) rfl (by kernel_rfl) (by kernel_rfl) (by kernel_rfl) (fun _ _ _ h => h) (Or.inl ⟨by rfl, ?h11⟩) (by assumption) ?r11
    rotate_left 1
    · (intro w hSw; (try dsimp only at hSw); go_simp; (try with_reducible rfl))
    try simp only [Act.put, List.setIfInBounds_toArray, List.set_cons_zero, List.set_cons_succ]
    refine wpAnyH_take (i := 12) (oi := ⟨_, _, _, _, _, _⟩) (v := ?v12) rfl (by kernel_rfl) (by kernel_rfl) (by kernel_rfl) (fun _ _ _ h => h) (Or.inl ⟨by rfl, ?h12⟩) (by assumption) ?r12
    rotate_left 1
    · (intro w hSw; (try dsimp only at hSw); go_simp; (try with_reducible rfl))
    try simp only [Act.put, List.setIfInBounds_toArray, List.set_cons_zero, List.set_cons_succ]
    refine wpAnyH_take (i := 13) (oi := ⟨_, _, _, _, _, _⟩) (v := ?v13) rfl (by kernel_rfl) (by kernel_rfl) (by kernel_rfl) (fun _ _ _ h => h) (Or.inl ⟨by rfl, ?h13⟩) (by assumption) ?r13
    rotate_left 1
    · (intro w hSw; (try dsimp only at hSw); go_simp; (try with_reducible rfl))
    try simp only [Act.put, List.setIfInBounds_toArray, List.set_cons_zero, List.set_cons_succ]
    refine wpAnyH_take (i := 14) (oi := ⟨_, _, _, _, _, _⟩) (v := ?v14) rfl (by kernel_rfl) (by kernel_rfl) (by kernel_rfl) (fun _ _ _ h => h) (Or.inl ⟨by rfl, ?h14⟩) (by assumption) ?r14
    rotate_left 1
    · (intro w hSw; (try dsimp only at hSw); go_simp; (try with_reducible rfl))
    try simp only [Act.put, List.setIfInBounds_toArray, List.set_cons_zero, List.set_cons_succ]
    refine wpAnyH_take (i := 15) (oi := ⟨_, _, _, _, _, _⟩) (v := ?v15) rfl (by kernel_rfl) (by kernel_rfl) (by kernel_rfl) (fun _ _ _ h => h) (Or.inl ⟨by rfl, ?h15⟩) (by assumption) ?r15
    rotate_left 1
    · (intro w hSw; (try dsimp only at hSw); go_simp; (try with_reducible rfl))
    try simp only [Act.put, List.setIfInBounds_toArray, List.set_cons_zero, List.set_cons_succ]
    refine wpAnyH_take (i := 16) (oi := ⟨_, _, _, _, _, _⟩) (v := ?v16) rfl (by kernel_rfl) (by kernel_rfl) (by kernel_rfl) (fun _ _ _ h => h) (Or.inl ⟨by rfl, ?h16⟩) (by assumption) ?r16
    rotate_left 1
    · (intro w hSw; (try dsimp only at hSw); go_simp; (try with_reducible rfl))
    try simp only [Act.put, List.setIfInBounds_toArray, List.set_cons_zero, List.set_cons_succ]
    refine wpAnyH_take (i := 17) (oi := ⟨_, _, _, _, _, _⟩) (v := ?v17) rfl (by kernel_rfl) (by kernel_rfl) (by kernel_rfl) (fun _ _ _ h => h) (Or.inl ⟨by rfl, ?h17⟩) (by assumption) ?r17
    rotate_left 1
    · (intro w hSw; (try dsimp only at hSw); go_simp; (try with_reducible rfl))
    try simp only [Act.put, List.setIfInBounds_toArray, List.set_cons_zero, List.set_cons_succ]
    refine wpAnyH_take (i := 18) (oi := ⟨_, _, _, _, _, _⟩) (v := ?v18) rfl (by kernel_rfl) (by kernel_rfl) (by kernel_rfl) (fun _ _ _ h => h) (Or.inl ⟨by rfl, ?h18⟩) (by assumption) ?r18
    rotate_left 1
    · (intro w hSw; (try dsimp only at hSw); go_simp; (try with_reducible rfl))
    try simp only [Act.put, List.setIfInBounds_toArray, List.set_cons_zero, List.set_cons_succ]
    refine wpAnyH_take (i := 19) (oi := ⟨_, _, _, _, _, _⟩) (v := ?v19) rfl (by kernel_rfl) (by kernel_rfl) (by kernel_rfl) (fun _ _ _ h => h) (Or.inl ⟨by rfl, ?h19⟩) (by assumption) ?r19
    rotate_left 1
    · (intro w hSw; (try dsimp only at hSw); go_simp; (try with_reducible rfl))
    try simp only [Act.put, List.setIfInBounds_toArray, List.set_cons_zero, List.set_cons_succ]
    refine wpAnyH_take (i := 20) (oi := ⟨_, _, _, _, _, _⟩) (v := ?v20) rfl (by kernel_rfl) (by kernel_rfl) (by kernel_rfl) (fun _ _ _ h => h) (Or.inl ⟨by rfl, ?h20⟩) (by assumption) ?r20
    rotate_left 1
    · (intro w hSw; (try dsimp only at hSw); go_simp; (try with_reducible rfl))
    try simp only [Act.put, List.setIfInBounds_toArray, List.set_cons_zero, List.set_cons_succ]
    refine wpAnyH_take (i := 21) (oi := ⟨_, _, _, _, _, _⟩) (v := ?v21) rfl (by kernel_rfl) (by kernel_rfl) (by kernel_rfl) (fun _ _ _ h => h) (Or.inl ⟨by rfl, ?h21⟩) (by assumption) ?r21
    rotate_left 1
    · (intro w hSw; (try dsimp only at hSw); go_simp; (try with_reducible rfl))
    try simp only [Act.put, List.setIfInBounds_toArray, List.set_cons_zero, List.set_cons_succ]
    refine wpAnyH_take (i := 22) (oi := ⟨_, _, _, _, _, _⟩) (v := ?v22) rfl (by kernel_rfl) (by kernel_rfl) (by kernel_rfl) (fun _ _ _ h => h) (Or.inl ⟨by rfl, ?h22⟩) (by assumption) ?r22
    rotate_left 1
    · (intro w hSw; (try dsimp only at hSw); go_simp; (try with_reducible rfl))
    try simp only [Act.put, List.setIfInBounds_toArray, List.set_cons_zero, List.set_cons_succ]
    refine wpAnyH_take (i := 23) (oi := ⟨_, _, _, _, _, _⟩) (v := ?v23) rfl (by kernel_rfl) (by kernel_rfl) (by kernel_rfl) (fun _ _ _ h => h) (Or.inl ⟨by rfl, ?h23⟩) (by assumption) ?r23
    rotate_left 1
    · (intro w hSw; (try dsimp only at hSw); go_simp; (try with_reducible rfl))
    try simp only [Act.put, List.setIfInBounds_toArray, List.set_cons_zero, List.set_cons_succ]
    refine wpAnyH_take (i := 24) (oi := ⟨_, _, _, _, _, _⟩) (v := ?v24) rfl (by kernel_rfl) (by kernel_rfl) (by kernel_rfl) (fun _ _ _ h => h) (Or.inl ⟨by rfl, ?h24⟩) (by assumption) ?r24
    rotate_left 1
    · (intro w hSw; (try dsimp only at hSw); go_simp; (try with_reducible rfl))
    try simp only [Act.put, List.setIfInBounds_toArray, List.set_cons_zero, List.set_cons_succ]
    refine wpAnyH_take (i := 25) (oi := ⟨_, _, _, _, _, _⟩) (v := ?v25) rfl (by kernel_rfl) (by kernel_rfl) (by kernel_rfl) (fun _ _ _ h => h) (Or.inl ⟨by rfl, ?h25⟩) (by assumption) ?r25
    rotate_left 1
    · (intro w hSw; (try dsimp only at hSw); go_simp; (try with_reducible rfl))
    try simp only [Act.put, List.setIfInBounds_toArray, List.set_cons_zero, List.set_cons_succ]
    refine wpAnyH_take (i := 26) (oi := ⟨_, _, _, _, _, _⟩) (v := ?v26) rfl (by kernel_rfl) (by kernel_rfl) (by kernel_rfl) (fun _ _ _ h => h) (Or.inl ⟨by rfl, ?h26⟩) (by assumption) ?r26
    rotate_left 1
    · (intro w hSw; (try dsimp only at hSw); go_simp; (try with_reducible rfl))
    try simp only [Act.put, List.setIfInBounds_toArray, List.set_cons_zero, List.set_cons_succ]
    refine wpAnyH_take (i := 27) (oi := ⟨_, _, _, _, _, _⟩) (v := ?v27) rfl (by kernel_rfl) (by kernel_rfl) (by kernel_rfl) (fun _ _ _ h => h) (Or.inl ⟨by rfl, ?h27⟩) (by assumption) ?r27
    rotate_left 1
    · (intro w hSw; (try dsimp only at hSw); go_simp; (try with_reducible rfl))
    try simp only [Act.put, List.setIfInBounds_toArray, List.set_cons_zero, List.set_cons_succ]
    refine wpAnyH_take (i := 28) (oi := ⟨_, _, _, _, _, _⟩) (v := ?v28) rfl (by kernel_rfl) (by kernel_rfl) (by kernel_rfl) (fun _ _ _ h => h) (Or.inl ⟨by rfl, ?h28⟩) (by assumption) ?r28
    rotate_left 1
    · (intro w hSw; (try dsimp only at hSw); go_simp; (try with_reducible rfl))
    try simp only [Act.put, List.setIfInBounds_toArray, List.set_cons_zero, List.set_cons_succ]
    refine wpAnyH_take (i := 29) (oi := ⟨_, _, _, _, _, _⟩) (v := ?v29) rfl (by kernel_rfl) (by kernel_rfl) (by kernel_rfl) (fun _ _ _ h => h) (Or.inl ⟨by rfl, ?h29⟩) (by assumption) ?r29
    rotate_left 1
    · (intro w hSw; (try dsimp only at hSw); go_simp; (try with_reducible rfl))
    try simp only [Act.put, List.setIfInBounds_toArray, List.set_cons_zero, List.set_cons_succ]
    refine wpAnyH_take (i := 30) (oi := ⟨_, _, _, _, _, _⟩) (v := ?v30) rfl (by kernel_rfl) (by kernel_rfl) (by kernel_rfl) (fun _ _ _ h => h) (Or.inl ⟨by rfl, ?h30⟩) (by assumption) ?r30
    rotate_left 1
    · (intro w hSw; (try dsimp only at hSw); go_simp; (try with_reducible rfl))
    try simp only [Act.put, List.setIfInBounds_toArray, List.set_cons_zero, List.set_cons_succ]
    refine wpAnyH_take (i := 31) (oi := ⟨_, _, _, _, _, _⟩) (v := ?v31) rfl (by kernel_rfl) (by kernel_rfl) (by kernel_rfl) (fun _ _ _ h => h) (Or.inl ⟨by rfl, ?h31⟩) (by assumption) ?r31
    rotate_left 1
    · (intro w hSw; (try dsimp only at hSw); go_simp; (try with_reducible rfl))
    try simp only [Act.put, List.setIfInBounds_toArray, List.set_cons_zero, List.set_cons_succ]
    refine wpAnyH_take (i := 32) (oi := ⟨_, _, _, _, _, _⟩) (v := ?v32) rfl (by kernel_rfl) (by kernel_rfl) (by kernel_rfl) (fun _ _ _ h => h) (Or.inl ⟨by rfl, ?h32⟩) (by assumption) ?r32
    rotate_left 1
    · (intro w hSw; (try dsimp only at hSw); go_simp; (try with_reducible rfl))
    try simp only [Act.put, List.setIfInBounds_toArray, List.set_cons_zero, List.set_cons_succ]
    refine wpAnyH_take (i := 33) (oi := ⟨_, _, _, _, _, _⟩) (v := ?v33) rfl (by kernel_rfl) (by kernel_rfl) (by kernel_rfl) (fun _ _ _ h => h) (Or.inl ⟨by rfl, ?h33⟩) (by assumption) ?r33
    rotate_left 1
    · (intro w hSw; (try dsimp only at hSw); go_simp; (try with_reducible rfl))
    try simp only [Act.put, List.setIfInBounds_toArray, List.set_cons_zero, List.set_cons_succ]
    refine wpAnyH_take (i := 34) (oi := ⟨_, _, _, _, _, _⟩) (v := ?v34) rfl (by kernel_rfl) (by kernel_rfl) (by kernel_rfl) (fun _ _ _ h => h) (Or.inl ⟨by rfl, ?h34⟩) (by assumption) ?r34
    rotate_left 1
    · (intro w hSw; (try dsimp only at hSw); go_simp; (try with_reducible rfl))
    try simp only [Act.put, List.setIfInBounds_toArray, List.set_cons_zero, List.set_cons_succ]
    refine wpAnyH_take (i := 35) (oi := ⟨_, _, _, _, _, _⟩) (v := ?v35) rfl (by kernel_rfl) (by kernel_rfl) (by kernel_rfl) (fun _ _ _ h => h) (Or.inl ⟨by rfl, ?h35⟩) (by assumption) ?r35
    rotate_left 1
    · (intro w hSw; (try dsimp only at hSw); go_simp; (try with_reducible rfl))
    try simp only [Act.put, List.setIfInBounds_toArray, List.set_cons_zero, List.set_cons_succ]
    refine wpAnyH_take (i := 36) (oi := ⟨_, _, _, _, _, _⟩) (v := ?v36) rfl (by kernel_rfl) (by kernel_rfl) (by kernel_rfl) (fun _ _ _ h => h) (Or.inl ⟨by rfl, ?h36⟩) (by assumption) ?r36
    rotate_left 1
    · (intro w hSw; (try dsimp only at hSw); go_simp; (try with_reducible rfl))
    try simp only [Act.put, List.setIfInBounds_toArray, List.set_cons_zero, List.set_cons_succ]
    refine wpAnyH_take (i := 37) (oi := ⟨_, _, _, _, _, _⟩) (v := ?v37) rfl (by kernel_rfl) (by kernel_rfl) (by kernel_rfl) (fun _ _ _ h => h) (Or.inl ⟨by rfl, ?h37⟩) (by assumption) ?r37
    rotate_left 1
    · (intro w hSw; (try dsimp only at hSw); go_simp; (try with_reducible rfl))
    try simp only [Act.put, List.setIfInBounds_toArray, List.set_cons_zero, List.set_cons_succ]
    refine wpAnyH_take (i := 39) (oi := ⟨_, _, _, _, _, _⟩) (v := ?v39) rfl (by kernel_rfl) (by kernel_rfl) (by kernel_rfl) (fun _ _ _ h => h) (Or.inl ⟨by rfl, ?h39⟩) (by assumption) ?r39
    rotate_left 1
    · (intro w hSw; (try dsimp only at hSw); go_simp; (try with_reducible rfl))
    try simp only [Act.put, List.setIfInBounds_toArray, List.set_cons_zero, List.set_cons_succ]
    refine wpAnyH_take (i := 40) (oi := ⟨_, _, _, _, _, _⟩) (v := ?v40) rfl (by kernel_rfl) (by kernel_rfl) (by kernel_rfl) (fun _ _ _ h => h) (Or.inl ⟨by rfl, ?h40⟩) (by assumption) ?r40
    rotate_left 1
    · (intro w hSw; (try dsimp only at hSw); go_simp; (try with_reducible rfl))
    try simp only [Act.put, List.setIfInBounds_toArray, List.set_cons_zero, List.set_cons_succ]
    refine wpAnyH_ready (rs := [38]) (by kernel_rfl) (by simp) ?_
    refine AllReadyH.cons (o := ⟨_, _, _, _, _, _⟩) rfl (fun K hK => ?_) AllReadyH.nil
    go_simp
    go_at_call 33; refine (person_any _).mono ?_; rintro e y1 ⟨u1, rfl, hu1, hq1⟩
    try go_wp2_with fail
    refine hK.out _ _ ?_ (fun hHeld => ?_)
    · (try dsimp only); refine hSt _ ?_; repeat (first | with_reducible exact Below.refl _ _ | with_reducible apply Below.drew | with_reducible refine Below.on ?_ ha0 | with_reducible refine Below.on ?_ hq1)
    clear hK K
    try simp only [Act.put, List.setIfInBounds_toArray, List.set_cons_zero, List.set_cons_succ]
    as_aux_lemma =>
      refine wpAnyH_ready (rs := [41]) (by kernel_rfl) (by simp) ?_
      refine AllReadyH.cons (o := ⟨_, _, _, _, _, _⟩) rfl (fun K hK => ?_) AllReadyH.nil
      go_simp
      go_at_call 22; refine (dM1 _ _ (by repeat (first | with_reducible exact Below.refl _ _ | with_reducible apply Below.drew | with_reducible refine Below.on ?_ ha0 | with_reducible refine Below.on ?_ hq1)) (SchV.mono (SchV.keep hu1 (by repeat (first | with_reducible exact Below.refl _ _ | with_reducible apply Below.drew))) (by first | exact Nat.le_refl _ | (have := hqE.size; (try simp at this ⊢); omega)))).mono ?_; rintro e z1 ⟨rfl, ha1⟩
      try go_wp2_with fail
      refine hK.out _ _ ?_ (fun hHeld => ?_)
      · (try dsimp only); refine hSt _ ?_; repeat (first | with_reducible exact Below.refl _ _ | with_reducible apply Below.drew | with_reducible refine Below.on ?_ ha0 | with_reducible refine Below.on ?_ hq1 | with_reducible refine Below.on ?_ ha1)
      clear hK K
      try simp only [Act.put, List.setIfInBounds_toArray, List.set_cons_zero, List.set_cons_succ]
      as_aux_lemma =>
        refine wpAnyH_take (i := 42) (oi := ⟨_, _, _, _, _, _⟩) (v := ?v42) rfl (by kernel_rfl) (by kernel_rfl) (by kernel_rfl) (fun _ _ _ h => h) (Or.inl ⟨by rfl, ?h42⟩) (by assumption) ?r42
        rotate_left 1
        · (intro w hSw; (try dsimp only at hSw); go_simp; (try with_reducible rfl))
        try simp only [Act.put, List.setIfInBounds_toArray, List.set_cons_zero, List.set_cons_succ]
        refine wpAnyH_take (i := 43) (oi := ⟨_, _, _, _, _, _⟩) (v := ?v43) rfl (by kernel_rfl) (by kernel_rfl) (by kernel_rfl) (fun _ _ _ h => h) (Or.inl ⟨by rfl, ?h43⟩) (by assumption) ?r43
        rotate_left 1
        · (intro w hSw; (try dsimp only at hSw); go_simp; (try with_reducible rfl))
        try simp only [Act.put, List.setIfInBounds_toArray, List.set_cons_zero, List.set_cons_succ]
        refine wpAnyH_take (i := 45) (oi := ⟨_, _, _, _, _, _⟩) (v := ?v45) rfl (by kernel_rfl) (by kernel_rfl) (by kernel_rfl) (fun _ _ _ h => h) (Or.inl ⟨by rfl, ?h45⟩) (by assumption) ?r45
        rotate_left 1
        · (intro w hSw; (try dsimp only at hSw); go_simp; (try with_reducible rfl))
        try simp only [Act.put, List.setIfInBounds_toArray, List.set_cons_zero, List.set_cons_succ]
        refine wpAnyH_take (i := 46) (oi := ⟨_, _, _, _, _, _⟩) (v := ?v46) rfl (by kernel_rfl) (by kernel_rfl) (by kernel_rfl) (fun _ _ _ h => h) (Or.inl ⟨by rfl, ?h46⟩) (by assumption) ?r46
        rotate_left 1
        · (intro w hSw; (try dsimp only at hSw); go_simp; (try with_reducible rfl))
        try simp only [Act.put, List.setIfInBounds_toArray, List.set_cons_zero, List.set_cons_succ]
        refine wpAnyH_ready (rs := [44]) (by kernel_rfl) (by simp) ?_
        refine AllReadyH.cons (o := ⟨_, _, _, _, _, _⟩) rfl (fun K hK => ?_) AllReadyH.nil
        go_simp
        go_at_call 33; refine (person_any _).mono ?_; rintro e y2 ⟨u2, rfl, hu2, hq2⟩
        try go_wp2_with fail
        refine hK.out _ _ ?_ (fun hHeld => ?_)
        · (try dsimp only); refine hSt _ ?_; repeat (first | with_reducible exact Below.refl _ _ | with_reducible apply Below.drew | with_reducible refine Below.on ?_ ha0 | with_reducible refine Below.on ?_ hq1 | with_reducible refine Below.on ?_ ha1 | with_reducible refine Below.on ?_ hq2)
        clear hK K
        try simp only [Act.put, List.setIfInBounds_toArray, List.set_cons_zero, List.set_cons_succ]
        as_aux_lemma =>
          refine wpAnyH_ready (rs := [47]) (by kernel_rfl) (by simp) ?_
          refine AllReadyH.cons (o := ⟨_, _, _, _, _, _⟩) rfl (fun K hK => ?_) AllReadyH.nil
          go_simp
          go_at_call 22; refine (dM2 _ _ (by repeat (first | with_reducible exact Below.refl _ _ | with_reducible apply Below.drew | with_reducible refine Below.on ?_ ha0 | with_reducible refine Below.on ?_ hq1 | with_reducible refine Below.on ?_ ha1 | with_reducible refine Below.on ?_ hq2)) (SchV.mono (SchV.keep hu2 (by repeat (first | with_reducible exact Below.refl _ _ | with_reducible apply Below.drew))) (by first | exact Nat.le_refl _ | (have := hqE.size; (try simp at this ⊢); omega)))).mono ?_; rintro e z2 ⟨rfl, ha2⟩
          try go_wp2_with fail
          refine hK.out _ _ ?_ (fun hHeld => ?_)
          · (try dsimp only); refine hSt _ ?_; repeat (first | with_reducible exact Below.refl _ _ | with_reducible apply Below.drew | with_reducible refine Below.on ?_ ha0 | with_reducible refine Below.on ?_ hq1 | with_reducible refine Below.on ?_ ha1 | with_reducible refine Below.on ?_ hq2 | with_reducible refine Below.on ?_ ha2)
          clear hK K
          try simp only [Act.put, List.setIfInBounds_toArray, List.set_cons_zero, List.set_cons_succ]
          as_aux_lemma =>
            refine wpAnyH_take (i := 48) (oi := ⟨_, _, _, _, _, _⟩) (v := ?v48) rfl (by kernel_rfl) (by kernel_rfl) (by kernel_rfl) (fun _ _ _ h => h) (Or.inl ⟨by rfl, ?h48⟩) (by assumption) ?r48
            rotate_left 1
            · (intro w hSw; (try dsimp only at hSw); go_simp; (try with_reducible rfl))
            try simp only [Act.put, List.setIfInBounds_toArray, List.set_cons_zero, List.set_cons_succ]
            refine wpAnyH_take (i := 49) (oi := ⟨_, _, _, _, _, _⟩) (v := ?v49) rfl (by kernel_rfl) (by kernel_rfl) (by kernel_rfl) (fun _ _ _ h => h) (Or.inl ⟨by rfl, ?h49⟩) (by assumption) ?r49
            rotate_left 1
            · (intro w hSw; (try dsimp only at hSw); go_simp; (try with_reducible rfl))
            try simp only [Act.put, List.setIfInBounds_toArray, List.set_cons_zero, List.set_cons_succ]
            refine wpAnyH_take (i := 51) (oi := ⟨_, _, _, _, _, _⟩) (v := ?v51) rfl (by kernel_rfl) (by kernel_rfl) (by kernel_rfl) (fun _ _ _ h => h) (Or.inl ⟨by rfl, ?h51⟩) (by assumption) ?r51
            rotate_left 1
            · (intro w hSw; (try dsimp only at hSw); go_simp; (try with_reducible rfl))
            try simp only [Act.put, List.setIfInBounds_toArray, List.set_cons_zero, List.set_cons_succ]
            refine wpAnyH_take (i := 52) (oi := ⟨_, _, _, _, _, _⟩) (v := ?v52) rfl (by kernel_rfl) (by kernel_rfl) (by kernel_rfl) (fun _ _ _ h => h) (Or.inl ⟨by rfl, ?h52⟩) (by assumption) ?r52
            rotate_left 1
            · (intro w hSw; (try dsimp only at hSw); go_simp; (try with_reducible rfl))
            try simp only [Act.put, List.setIfInBounds_toArray, List.set_cons_zero, List.set_cons_succ]
            refine wpAnyH_ready (rs := [50]) (by kernel_rfl) (by simp) ?_
            refine AllReadyH.cons (o := ⟨_, _, _, _, _, _⟩) rfl (fun K hK => ?_) AllReadyH.nil
            go_simp
            go_at_call 33; refine (person_any _).mono ?_; rintro e y3 ⟨u3, rfl, hu3, hq3⟩
            try go_wp2_with fail
            refine hK.out _ _ ?_ (fun hHeld => ?_)
            · (try dsimp only); refine hSt _ ?_; repeat (first | with_reducible exact Below.refl _ _ | with_reducible apply Below.drew | with_reducible refine Below.on ?_ ha0 | with_reducible refine Below.on ?_ hq1 | with_reducible refine Below.on ?_ ha1 | with_reducible refine Below.on ?_ hq2 | with_reducible refine Below.on ?_ ha2 | with_reducible refine Below.on ?_ hq3)
            clear hK K
            try simp only [Act.put, List.setIfInBounds_toArray, List.set_cons_zero, List.set_cons_succ]
            as_aux_lemma =>
              refine wpAnyH_ready (rs := [53]) (by kernel_rfl) (by simp) ?_
              refine AllReadyH.cons (o := ⟨_, _, _, _, _, _⟩) rfl (fun K hK => ?_) AllReadyH.nil
              go_simp
              go_at_call 22; refine (dM3 _ _ (by repeat (first | with_reducible exact Below.refl _ _ | with_reducible apply Below.drew | with_reducible refine Below.on ?_ ha0 | with_reducible refine Below.on ?_ hq1 | with_reducible refine Below.on ?_ ha1 | with_reducible refine Below.on ?_ hq2 | with_reducible refine Below.on ?_ ha2 | with_reducible refine Below.on ?_ hq3)) (SchV.mono (SchV.keep hu3 (by repeat (first | with_reducible exact Below.refl _ _ | with_reducible apply Below.drew))) (by first | exact Nat.le_refl _ | (have := hqE.size; (try simp at this ⊢); omega)))).mono ?_; rintro e z3 ⟨rfl, ha3⟩
              try go_wp2_with fail
              refine hK.out _ _ ?_ (fun hHeld => ?_)
              · (try dsimp only); refine hSt _ ?_; repeat (first | with_reducible exact Below.refl _ _ | with_reducible apply Below.drew | with_reducible refine Below.on ?_ ha0 | with_reducible refine Below.on ?_ hq1 | with_reducible refine Below.on ?_ ha1 | with_reducible refine Below.on ?_ hq2 | with_reducible refine Below.on ?_ ha2 | with_reducible refine Below.on ?_ hq3 | with_reducible refine Below.on ?_ ha3)
              clear hK K
              try simp only [Act.put, List.setIfInBounds_toArray, List.set_cons_zero, List.set_cons_succ]
              as_aux_lemma =>
                refine wpAnyH_take (i := 54) (oi := ⟨_, _, _, _, _, _⟩) (v := ?v54) rfl (by kernel_rfl) (by kernel_rfl) (by kernel_rfl) (fun _ _ _ h => h) (Or.inl ⟨by rfl, ?h54⟩) (by assumption) ?r54
                rotate_left 1
                · (intro w hSw; (try dsimp only at hSw); go_simp; (try with_reducible rfl))
                try simp only [Act.put, List.setIfInBounds_toArray, List.set_cons_zero, List.set_cons_succ]
                refine wpAnyH_take (i := 55) (oi := ⟨_, _, _, _, _, _⟩) (v := ?v55) rfl (by kernel_rfl) (by kernel_rfl) (by kernel_rfl) (fun _ _ _ h => h) (Or.inl ⟨by rfl, ?h55⟩) (by assumption) ?r55
                rotate_left 1
                · (intro w hSw; (try dsimp only at hSw); go_simp; (try with_reducible rfl))
                try simp only [Act.put, List.setIfInBounds_toArray, List.set_cons_zero, List.set_cons_succ]
                refine wpAnyH_take (i := 58) (oi := ⟨_, _, _, _, _, _⟩) (v := ?v58) rfl (by kernel_rfl) (by kernel_rfl) (by kernel_rfl) (fun _ _ _ h => h) (Or.inl ⟨by rfl, ?h58⟩) (by assumption) ?r58
                rotate_left 1
                · (intro w hSw; (try dsimp only at hSw); go_simp; (try with_reducible rfl))
                try simp only [Act.put, List.setIfInBounds_toArray, List.set_cons_zero, List.set_cons_succ]
                refine wpAnyH_ready (rs := [56]) (by kernel_rfl) (by simp) ?_
                refine AllReadyH.cons (o := ⟨_, _, _, _, _, _⟩) rfl (fun K hK => ?_) AllReadyH.nil
                go_simp
                go_at_call 33; refine (person_any _).mono ?_; rintro e y4 ⟨u4, rfl, hu4, hq4⟩
                try go_wp2_with fail
                refine hK.out _ _ ?_ (fun hHeld => ?_)
                · (try dsimp only); refine hSt _ ?_; repeat (first | with_reducible exact Below.refl _ _ | with_reducible apply Below.drew | with_reducible refine Below.on ?_ ha0 | with_reducible refine Below.on ?_ hq1 | with_reducible refine Below.on ?_ ha1 | with_reducible refine Below.on ?_ hq2 | with_reducible refine Below.on ?_ ha2 | with_reducible refine Below.on ?_ hq3 | with_reducible refine Below.on ?_ ha3 | with_reducible refine Below.on ?_ hq4)
                clear hK K
                try simp only [Act.put, List.setIfInBounds_toArray, List.set_cons_zero, List.set_cons_succ]
                as_aux_lemma =>
                  refine wpAnyH_ready (rs := [57]) (by kernel_rfl) (by simp) ?_
                  refine AllReadyH.cons (o := ⟨_, _, _, _, _, _⟩) rfl (fun K hK => ?_) AllReadyH.nil
                  go_simp
                  go_at_call 32; refine (dEq _).mono ?_; rintro e yE ⟨rfl, hqE⟩
                  try go_wp2_with fail
                  refine hK.out _ _ ?_ (fun hHeld => ?_)
                  · (try dsimp only); refine hSt _ ?_; repeat (first | with_reducible exact Below.refl _ _ | with_reducible apply Below.drew | with_reducible refine Below.on ?_ ha0 | with_reducible refine Below.on ?_ hq1 | with_reducible refine Below.on ?_ ha1 | with_reducible refine Below.on ?_ hq2 | with_reducible refine Below.on ?_ ha2 | with_reducible refine Below.on ?_ hq3 | with_reducible refine Below.on ?_ ha3 | with_reducible refine Below.on ?_ hq4 | with_reducible refine Below.on ?_ hqE)
                  clear hK K
                  try simp only [Act.put, List.setIfInBounds_toArray, List.set_cons_zero, List.set_cons_succ]
                  as_aux_lemma =>
                    refine wpAnyH_ready (rs := [59]) (by kernel_rfl) (by simp) ?_
                    refine AllReadyH.cons (o := ⟨_, _, _, _, _, _⟩) rfl (fun K hK => ?_) AllReadyH.nil
                    go_simp
                    go_at_call 22; refine (dM4 _ _ (by repeat (first | with_reducible exact Below.refl _ _ | with_reducible apply Below.drew | with_reducible refine Below.on ?_ ha0 | with_reducible refine Below.on ?_ hq1 | with_reducible refine Below.on ?_ ha1 | with_reducible refine Below.on ?_ hq2 | with_reducible refine Below.on ?_ ha2 | with_reducible refine Below.on ?_ hq3 | with_reducible refine Below.on ?_ ha3 | with_reducible refine Below.on ?_ hq4 | with_reducible refine Below.on ?_ hqE)) (SchV.mono (SchV.keep hu4 (by repeat (first | with_reducible exact Below.refl _ _ | with_reducible apply Below.drew | with_reducible refine Below.on ?_ hqE))) (by first | exact Nat.le_refl _ | (have := hqE.size; (try simp at this ⊢); omega)))).mono ?_; rintro e z4 ⟨rfl, ha4⟩
                    try go_wp2_with fail
                    refine hK.out _ _ ?_ (fun hHeld => ?_)
                    · (try dsimp only); refine hSt _ ?_; repeat (first | with_reducible exact Below.refl _ _ | with_reducible apply Below.drew | with_reducible refine Below.on ?_ ha0 | with_reducible refine Below.on ?_ hq1 | with_reducible refine Below.on ?_ ha1 | with_reducible refine Below.on ?_ hq2 | with_reducible refine Below.on ?_ ha2 | with_reducible refine Below.on ?_ hq3 | with_reducible refine Below.on ?_ ha3 | with_reducible refine Below.on ?_ hq4 | with_reducible refine Below.on ?_ hqE | with_reducible refine Below.on ?_ ha4)
                    clear hK K
                    try simp only [Act.put, List.setIfInBounds_toArray, List.set_cons_zero, List.set_cons_succ]
                    as_aux_lemma =>
                      refine wpAnyH_take (i := 60) (oi := ⟨_, _, _, _, _, _⟩) (v := ?v60) rfl (by kernel_rfl) (by kernel_rfl) (by kernel_rfl) (fun _ _ _ h => h) (Or.inl ⟨by rfl, ?h60⟩) (by assumption) ?r60
                      rotate_left 1
                      · (intro w hSw; (try dsimp only at hSw); go_simp; (try with_reducible rfl))
                      try simp only [Act.put, List.setIfInBounds_toArray, List.set_cons_zero, List.set_cons_succ]
                      refine wpAnyH_take (i := 61) (oi := ⟨_, _, _, _, _, _⟩) (v := ?v61) rfl (by kernel_rfl) (by kernel_rfl) (by kernel_rfl) (fun _ _ _ h => h) (Or.inl ⟨by rfl, ?h61⟩) (by assumption) ?r61
                      rotate_left 1
                      · (intro w hSw; (try dsimp only at hSw); go_simp; (try with_reducible rfl))
                      try simp only [Act.put, List.setIfInBounds_toArray, List.set_cons_zero, List.set_cons_succ]
                      refine wpAnyH_take (i := 62) (oi := ⟨_, _, _, _, _, _⟩) (v := ?v62) rfl (by kernel_rfl) (by kernel_rfl) (by kernel_rfl) (fun _ _ _ h => h) (Or.inl ⟨by rfl, ?h62⟩) (by assumption) ?r62
                      rotate_left 1
                      · (intro w hSw; (try dsimp only at hSw); go_simp; (try with_reducible rfl))
                      try simp only [Act.put, List.setIfInBounds_toArray, List.set_cons_zero, List.set_cons_succ]
                      refine wpAnyH_take (i := 63) (oi := ⟨_, _, _, _, _, _⟩) (v := ?v63) rfl (by kernel_rfl) (by kernel_rfl) (by kernel_rfl) (fun _ _ _ h => h) (Or.inl ⟨by rfl, ?h63⟩) (by assumption) ?r63
                      rotate_left 1
                      · (intro w hSw; (try dsimp only at hSw); go_simp; (try with_reducible rfl))
                      try simp only [Act.put, List.setIfInBounds_toArray, List.set_cons_zero, List.set_cons_succ]
                      refine wpAnyH_ready (rs := [64]) (by kernel_rfl) (by simp) ?_
                      refine AllReadyH.cons (o := ⟨_, _, _, _, _, _⟩) rfl (fun K hK => ?_) AllReadyH.nil
                      go_simp
                      go_at_call 25; refine (dNm _ (by repeat (first | with_reducible exact Below.refl _ _ | with_reducible apply Below.drew | with_reducible refine Below.on ?_ ha0 | with_reducible refine Below.on ?_ hq1 | with_reducible refine Below.on ?_ ha1 | with_reducible refine Below.on ?_ hq2 | with_reducible refine Below.on ?_ ha2 | with_reducible refine Below.on ?_ hq3 | with_reducible refine Below.on ?_ ha3 | with_reducible refine Below.on ?_ hq4 | with_reducible refine Below.on ?_ hqE | with_reducible refine Below.on ?_ ha4))).mono ?_; rintro e zN ⟨vN, rfl, hoN, haN⟩; obtain ⟨AN, cN, hvN⟩ := own_shape hoN; subst hvN; clear hoN
                      try go_wp2_with fail
                      refine hK.out _ _ ?_ (fun hHeld => ?_)
                      · (try dsimp only); refine hSt _ ?_; repeat (first | with_reducible exact Below.refl _ _ | with_reducible apply Below.drew | with_reducible refine Below.on ?_ ha0 | with_reducible refine Below.on ?_ hq1 | with_reducible refine Below.on ?_ ha1 | with_reducible refine Below.on ?_ hq2 | with_reducible refine Below.on ?_ ha2 | with_reducible refine Below.on ?_ hq3 | with_reducible refine Below.on ?_ ha3 | with_reducible refine Below.on ?_ hq4 | with_reducible refine Below.on ?_ hqE | with_reducible refine Below.on ?_ ha4 | with_reducible refine Below.on ?_ haN)
                      clear hK K
                      try simp only [Act.put, List.setIfInBounds_toArray, List.set_cons_zero, List.set_cons_succ]
                      as_aux_lemma =>
                        refine wpAnyH_take (i := 65) (oi := ⟨_, _, _, _, _, _⟩) (v := ?v65) rfl (by kernel_rfl) (by kernel_rfl) (by kernel_rfl) (fun _ _ _ h => h) (Or.inl ⟨by rfl, ?h65⟩) (by assumption) ?r65
                        rotate_left 1
                        · (intro w hSw; (try dsimp only at hSw); go_simp; (try with_reducible rfl))
                        try simp only [Act.put, List.setIfInBounds_toArray, List.set_cons_zero, List.set_cons_succ]
                        refine wpAnyH_take (i := 66) (oi := ⟨_, _, _, _, _, _⟩) (v := ?v66) rfl (by kernel_rfl) (by kernel_rfl) (by kernel_rfl) (fun _ _ _ h => h) (Or.inl ⟨by rfl, ?h66⟩) (by assumption) ?r66
                        rotate_left 1
                        · (intro w hSw; (try dsimp only at hSw); go_simp; (try with_reducible rfl))
                        try simp only [Act.put, List.setIfInBounds_toArray, List.set_cons_zero, List.set_cons_succ]
                        refine wpAnyH_take (i := 67) (oi := ⟨_, _, _, _, _, _⟩) (v := ?v67) rfl (by kernel_rfl) (by kernel_rfl) (by kernel_rfl) (fun _ _ _ h => h) (Or.inl ⟨by rfl, ?h67⟩) (by assumption) ?r67
                        rotate_left 1
                        · (intro w hSw; (try dsimp only at hSw); go_simp; (try with_reducible rfl))
                        try simp only [Act.put, List.setIfInBounds_toArray, List.set_cons_zero, List.set_cons_succ]
                        refine wpAnyH_take (i := 68) (oi := ⟨_, _, _, _, _, _⟩) (v := ?v68) rfl (by kernel_rfl) (by kernel_rfl) (by kernel_rfl) (fun _ _ _ h => h) (Or.inl ⟨by rfl, ?h68⟩) (by assumption) ?r68
                        rotate_left 1
                        · (intro w hSw; (try dsimp only at hSw); go_simp; (try with_reducible rfl))
                        try simp only [Act.put, List.setIfInBounds_toArray, List.set_cons_zero, List.set_cons_succ]
                        refine wpAnyH_take (i := 69) (oi := ⟨_, _, _, _, _, _⟩) (v := ?v69) rfl (by kernel_rfl) (by kernel_rfl) (by kernel_rfl) (fun _ _ _ h => h) (Or.inl ⟨by rfl, ?h69⟩) (by assumption) ?r69
                        rotate_left 1
                        · (intro w hSw; (try dsimp only at hSw); go_simp; (try with_reducible rfl))
                        try simp only [Act.put, List.setIfInBounds_toArray, List.set_cons_zero, List.set_cons_succ]
                        refine wpAnyH_take (i := 70) (oi := ⟨_, _, _, _, _, _⟩) (v := ?v70) rfl (by kernel_rfl) (by kernel_rfl) (by kernel_rfl) (fun _ _ _ h => h) (Or.inl ⟨by rfl, ?h70⟩) (by assumption) ?r70
                        rotate_left 1
                        · (intro w hSw; (try dsimp only at hSw); go_simp; (try with_reducible rfl))
                        try simp only [Act.put, List.setIfInBounds_toArray, List.set_cons_zero, List.set_cons_succ]
                        refine wpAnyH_ready (rs := [71]) (by kernel_rfl) (by simp) ?_
                        refine AllReadyH.cons (o := ⟨_, _, _, _, _, _⟩) rfl (fun K hK => ?_) AllReadyH.nil
                        go_simp
                        go_at_call 27; refine (dE1 _ (by repeat (first | with_reducible exact Below.refl _ _ | with_reducible apply Below.drew | with_reducible refine Below.on ?_ ha0 | with_reducible refine Below.on ?_ hq1 | with_reducible refine Below.on ?_ ha1 | with_reducible refine Below.on ?_ hq2 | with_reducible refine Below.on ?_ ha2 | with_reducible refine Below.on ?_ hq3 | with_reducible refine Below.on ?_ ha3 | with_reducible refine Below.on ?_ hq4 | with_reducible refine Below.on ?_ hqE | with_reducible refine Below.on ?_ ha4 | with_reducible refine Below.on ?_ haN))).mono ?_; rintro e zQ ⟨rfl, haQ⟩
                        try go_wp2_with fail
                        refine hK.out _ _ ?_ (fun hHeld => ?_)
                        · (try dsimp only); refine hSt _ ?_; repeat (first | with_reducible exact Below.refl _ _ | with_reducible apply Below.drew | with_reducible refine Below.on ?_ ha0 | with_reducible refine Below.on ?_ hq1 | with_reducible refine Below.on ?_ ha1 | with_reducible refine Below.on ?_ hq2 | with_reducible refine Below.on ?_ ha2 | with_reducible refine Below.on ?_ hq3 | with_reducible refine Below.on ?_ ha3 | with_reducible refine Below.on ?_ hq4 | with_reducible refine Below.on ?_ hqE | with_reducible refine Below.on ?_ ha4 | with_reducible refine Below.on ?_ haN | with_reducible refine Below.on ?_ haQ)
                        clear hK K
                        try simp only [Act.put, List.setIfInBounds_toArray, List.set_cons_zero, List.set_cons_succ]
                        as_aux_lemma =>
                          refine wpAnyH_take (i := 72) (oi := ⟨_, _, _, _, _, _⟩) (v := ?v72) rfl (by kernel_rfl) (by kernel_rfl) (by kernel_rfl) (fun _ _ _ h => h) (Or.inl ⟨by rfl, ?h72⟩) (by assumption) ?r72
                          rotate_left 1
                          · (intro w hSw; (try dsimp only at hSw); go_simp; (try with_reducible rfl))
                          try simp only [Act.put, List.setIfInBounds_toArray, List.set_cons_zero, List.set_cons_succ]
                          refine wpAnyH_take (i := 73) (oi := ⟨_, _, _, _, _, _⟩) (v := ?v73) rfl (by kernel_rfl) (by kernel_rfl) (by kernel_rfl) (fun _ _ _ h => h) (Or.inl ⟨by rfl, ?h73⟩) (by assumption) ?r73
                          rotate_left 1
                          · (intro w hSw; (try dsimp only at hSw); go_simp; (try with_reducible rfl))
                          try simp only [Act.put, List.setIfInBounds_toArray, List.set_cons_zero, List.set_cons_succ]
                          refine wpAnyH_take (i := 74) (oi := ⟨_, _, _, _, _, _⟩) (v := ?v74) rfl (by kernel_rfl) (by kernel_rfl) (by kernel_rfl) (fun _ _ _ h => h) (Or.inl ⟨by rfl, ?h74⟩) (by assumption) ?r74
                          rotate_left 1
                          · (intro w hSw; (try dsimp only at hSw); go_simp; (try with_reducible rfl))
                          try simp only [Act.put, List.setIfInBounds_toArray, List.set_cons_zero, List.set_cons_succ]
                          refine wpAnyH_take (i := 75) (oi := ⟨_, _, _, _, _, _⟩) (v := ?v75) rfl (by kernel_rfl) (by kernel_rfl) (by kernel_rfl) (fun _ _ _ h => h) (Or.inl ⟨by rfl, ?h75⟩) (by assumption) ?r75
                          rotate_left 1
                          · (intro w hSw; (try dsimp only at hSw); go_simp; (try with_reducible rfl))
                          try simp only [Act.put, List.setIfInBounds_toArray, List.set_cons_zero, List.set_cons_succ]
                          refine wpAnyH_ready (rs := [76]) (by kernel_rfl) (by simp) ?_
                          refine AllReadyH.cons (o := ⟨_, _, _, _, _, _⟩) rfl (fun K hK => ?_) AllReadyH.nil
                          go_simp
                          go_at_call 27; refine (dE2 _ (by repeat (first | with_reducible exact Below.refl _ _ | with_reducible apply Below.drew | with_reducible refine Below.on ?_ ha0 | with_reducible refine Below.on ?_ hq1 | with_reducible refine Below.on ?_ ha1 | with_reducible refine Below.on ?_ hq2 | with_reducible refine Below.on ?_ ha2 | with_reducible refine Below.on ?_ hq3 | with_reducible refine Below.on ?_ ha3 | with_reducible refine Below.on ?_ hq4 | with_reducible refine Below.on ?_ hqE | with_reducible refine Below.on ?_ ha4 | with_reducible refine Below.on ?_ haN | with_reducible refine Below.on ?_ haQ))).mono ?_; rintro e zR ⟨rfl, haR⟩
                          try go_wp2_with fail
                          refine hK.out _ _ ?_ (fun hHeld => ?_)
                          · (try dsimp only); refine hSt _ ?_; repeat (first | with_reducible exact Below.refl _ _ | with_reducible apply Below.drew | with_reducible refine Below.on ?_ ha0 | with_reducible refine Below.on ?_ hq1 | with_reducible refine Below.on ?_ ha1 | with_reducible refine Below.on ?_ hq2 | with_reducible refine Below.on ?_ ha2 | with_reducible refine Below.on ?_ hq3 | with_reducible refine Below.on ?_ ha3 | with_reducible refine Below.on ?_ hq4 | with_reducible refine Below.on ?_ hqE | with_reducible refine Below.on ?_ ha4 | with_reducible refine Below.on ?_ haN | with_reducible refine Below.on ?_ haQ | with_reducible refine Below.on ?_ haR)
                          clear hK K
                          try simp only [Act.put, List.setIfInBounds_toArray, List.set_cons_zero, List.set_cons_succ]
                          as_aux_lemma =>
                            refine wpAnyH_take (i := 77) (oi := ⟨_, _, _, _, _, _⟩) (v := ?v77) rfl (by kernel_rfl) (by kernel_rfl) (by kernel_rfl) (fun _ _ _ h => h) (Or.inl ⟨by rfl, ?h77⟩) (by assumption) ?r77
                            rotate_left 1
                            · (intro w hSw; (try dsimp only at hSw); go_simp; (try with_reducible rfl))
                            try simp only [Act.put, List.setIfInBounds_toArray, List.set_cons_zero, List.set_cons_succ]
                            refine wpAnyH_take (i := 78) (oi := ⟨_, _, _, _, _, _⟩) (v := ?v78) rfl (by kernel_rfl) (by kernel_rfl) (by kernel_rfl) (fun _ _ _ h => h) (Or.inl ⟨by rfl, ?h78⟩) (by assumption) ?r78
                            rotate_left 1
                            · (intro w hSw; (try dsimp only at hSw); go_simp; (try with_reducible rfl))
                            try simp only [Act.put, List.setIfInBounds_toArray, List.set_cons_zero, List.set_cons_succ]
                            refine wpAnyH_take (i := 79) (oi := ⟨_, _, _, _, _, _⟩) (v := ?v79) rfl (by kernel_rfl) (by kernel_rfl) (by kernel_rfl) (fun _ _ _ h => h) (Or.inl ⟨by rfl, ?h79⟩) (by assumption) ?r79
                            rotate_left 1
                            · (intro w hSw; (try dsimp only at hSw); go_simp; (try with_reducible rfl))
                            try simp only [Act.put, List.setIfInBounds_toArray, List.set_cons_zero, List.set_cons_succ]
                            refine wpAnyH_take (i := 80) (oi := ⟨_, _, _, _, _, _⟩) (v := ?v80) rfl (by kernel_rfl) (by kernel_rfl) (by kernel_rfl) (fun _ _ _ h => h) (Or.inl ⟨by rfl, ?h80⟩) (by assumption) ?r80
                            rotate_left 1
                            · (intro w hSw; (try dsimp only at hSw); go_simp; (try with_reducible rfl))
                            try simp only [Act.put, List.setIfInBounds_toArray, List.set_cons_zero, List.set_cons_succ]
                            refine wpAnyH_ready (rs := [81]) (by kernel_rfl) (by simp) ?_
                            refine AllReadyH.cons (o := ⟨_, _, _, _, _, _⟩) rfl (fun K hK => ?_) AllReadyH.nil
                            go_simp
                            go_at_call 12; refine (dC1 _ (by repeat (first | with_reducible exact Below.refl _ _ | with_reducible apply Below.drew | with_reducible refine Below.on ?_ ha0 | with_reducible refine Below.on ?_ hq1 | with_reducible refine Below.on ?_ ha1 | with_reducible refine Below.on ?_ hq2 | with_reducible refine Below.on ?_ ha2 | with_reducible refine Below.on ?_ hq3 | with_reducible refine Below.on ?_ ha3 | with_reducible refine Below.on ?_ hq4 | with_reducible refine Below.on ?_ hqE | with_reducible refine Below.on ?_ ha4 | with_reducible refine Below.on ?_ haN | with_reducible refine Below.on ?_ haQ | with_reducible refine Below.on ?_ haR))).mono ?_; rintro e zD ⟨rfl, haC1⟩
                            try go_wp2_with fail
                            refine hK.out _ _ ?_ (fun hHeld => ?_)
                            · (try dsimp only); refine hSt _ ?_; repeat (first | with_reducible exact Below.refl _ _ | with_reducible apply Below.drew | with_reducible refine Below.on ?_ ha0 | with_reducible refine Below.on ?_ hq1 | with_reducible refine Below.on ?_ ha1 | with_reducible refine Below.on ?_ hq2 | with_reducible refine Below.on ?_ ha2 | with_reducible refine Below.on ?_ hq3 | with_reducible refine Below.on ?_ ha3 | with_reducible refine Below.on ?_ hq4 | with_reducible refine Below.on ?_ hqE | with_reducible refine Below.on ?_ ha4 | with_reducible refine Below.on ?_ haN | with_reducible refine Below.on ?_ haQ | with_reducible refine Below.on ?_ haR | with_reducible refine Below.on ?_ haC1)
                            clear hK K
                            try simp only [Act.put, List.setIfInBounds_toArray, List.set_cons_zero, List.set_cons_succ]
                            as_aux_lemma =>
                              refine wpAnyH_take (i := 82) (oi := ⟨_, _, _, _, _, _⟩) (v := ?v82) rfl (by kernel_rfl) (by kernel_rfl) (by kernel_rfl) (fun _ _ _ h => h) (Or.inl ⟨by rfl, ?h82⟩) (by assumption) ?r82
                              rotate_left 1
                              · (intro w hSw; (try dsimp only at hSw); go_simp; (try with_reducible rfl))
                              try simp only [Act.put, List.setIfInBounds_toArray, List.set_cons_zero, List.set_cons_succ]
                              refine wpAnyH_take (i := 83) (oi := ⟨_, _, _, _, _, _⟩) (v := ?v83) rfl (by kernel_rfl) (by kernel_rfl) (by kernel_rfl) (fun _ _ _ h => h) (Or.inl ⟨by rfl, ?h83⟩) (by assumption) ?r83
                              rotate_left 1
                              · (intro w hSw; (try dsimp only at hSw); go_simp; (try with_reducible rfl))
                              try simp only [Act.put, List.setIfInBounds_toArray, List.set_cons_zero, List.set_cons_succ]
                              refine wpAnyH_take (i := 84) (oi := ⟨_, _, _, _, _, _⟩) (v := ?v84) rfl (by kernel_rfl) (by kernel_rfl) (by kernel_rfl) (fun _ _ _ h => h) (Or.inl ⟨by rfl, ?h84⟩) (by assumption) ?r84
                              rotate_left 1
                              · (intro w hSw; (try dsimp only at hSw); go_simp; (try with_reducible rfl))
                              try simp only [Act.put, List.setIfInBounds_toArray, List.set_cons_zero, List.set_cons_succ]
                              refine wpAnyH_take (i := 85) (oi := ⟨_, _, _, _, _, _⟩) (v := ?v85) rfl (by kernel_rfl) (by kernel_rfl) (by kernel_rfl) (fun _ _ _ h => h) (Or.inl ⟨by rfl, ?h85⟩) (by assumption) ?r85
                              rotate_left 1
                              · (intro w hSw; (try dsimp only at hSw); go_simp; (try with_reducible rfl))
                              try simp only [Act.put, List.setIfInBounds_toArray, List.set_cons_zero, List.set_cons_succ]
                              refine wpAnyH_ready (rs := [86]) (by kernel_rfl) (by simp) ?_
                              refine AllReadyH.cons (o := ⟨_, _, _, _, _, _⟩) rfl (fun K hK => ?_) AllReadyH.nil
                              go_simp
                              go_at_call 12; refine (dC0 _).mono ?_; rintro e zC ⟨rfl, haC0⟩
                              try go_wp2_with fail
                              refine hK.out _ _ ?_ (fun hHeld => ?_)
                              · (try dsimp only); refine hSt _ ?_; repeat (first | with_reducible exact Below.refl _ _ | with_reducible apply Below.drew | with_reducible refine Below.on ?_ ha0 | with_reducible refine Below.on ?_ hq1 | with_reducible refine Below.on ?_ ha1 | with_reducible refine Below.on ?_ hq2 | with_reducible refine Below.on ?_ ha2 | with_reducible refine Below.on ?_ hq3 | with_reducible refine Below.on ?_ ha3 | with_reducible refine Below.on ?_ hq4 | with_reducible refine Below.on ?_ hqE | with_reducible refine Below.on ?_ ha4 | with_reducible refine Below.on ?_ haN | with_reducible refine Below.on ?_ haQ | with_reducible refine Below.on ?_ haR | with_reducible refine Below.on ?_ haC1 | with_reducible refine Below.on ?_ haC0)
                              clear hK K
                              try simp only [Act.put, List.setIfInBounds_toArray, List.set_cons_zero, List.set_cons_succ]
                              as_aux_lemma =>
                                refine wpAnyH_take (i := 87) (oi := ⟨_, _, _, _, _, _⟩) (v := ?v87) rfl (by kernel_rfl) (by kernel_rfl) (by kernel_rfl) (fun _ _ _ h => h) (Or.inl ⟨by rfl, ?h87⟩) (by assumption) ?r87
                                rotate_left 1
                                · (intro w hSw; (try dsimp only at hSw); go_simp; (try with_reducible rfl))
                                try simp only [Act.put, List.setIfInBounds_toArray, List.set_cons_zero, List.set_cons_succ]
                                refine wpAnyH_take (i := 88) (oi := ⟨_, _, _, _, _, _⟩) (v := ?v88) rfl (by kernel_rfl) (by kernel_rfl) (by kernel_rfl) (fun _ _ _ h => h) (Or.inl ⟨by rfl, ?h88⟩) (by assumption) ?r88
                                rotate_left 1
                                · (intro w hSw; (try dsimp only at hSw); go_simp; (try with_reducible rfl))
                                try simp only [Act.put, List.setIfInBounds_toArray, List.set_cons_zero, List.set_cons_succ]
                                refine wpAnyH_take (i := 89) (oi := ⟨_, _, _, _, _, _⟩) (v := ?v89) rfl (by kernel_rfl) (by kernel_rfl) (by kernel_rfl) (fun _ _ _ h => h) (Or.inl ⟨by rfl, ?h89⟩) (by assumption) ?r89
                                rotate_left 1
                                · (intro w hSw; (try dsimp only at hSw); go_simp; (try with_reducible rfl))
                                try simp only [Act.put, List.setIfInBounds_toArray, List.set_cons_zero, List.set_cons_succ]
                                refine wpAnyH_done (by kernel_rfl) ?_ _
                                have hfin : Below X4.heap.size X4 zC := by repeat (first | with_reducible exact Below.refl _ _ | with_reducible apply Below.drew | with_reducible refine Below.on ?_ ha0 | with_reducible refine Below.on ?_ hq1 | with_reducible refine Below.on ?_ ha1 | with_reducible refine Below.on ?_ hq2 | with_reducible refine Below.on ?_ ha2 | with_reducible refine Below.on ?_ hq3 | with_reducible refine Below.on ?_ ha3 | with_reducible refine Below.on ?_ hq4 | with_reducible refine Below.on ?_ hqE | with_reducible refine Below.on ?_ ha4 | with_reducible refine Below.on ?_ haN | with_reducible refine Below.on ?_ haQ | with_reducible refine Below.on ?_ haR | with_reducible refine Below.on ?_ haC1 | with_reducible refine Below.on ?_ haC0)
                                go_wp2_with fail
                                go_ret
                                exact ⟨rfl, hbZ.trans (hfin.mono hbZ.size)⟩
end Go.Proofs.YtmamnmjfbadiiaaGreatDoor
/- law09: FilterChecks. -/
namespace Go.Proofs.YtmamnmjfbadiiaaGreatDoor
open Go.RowKit Go.Sort
open Idn (L B Bs drop_L take_L size_L)
theorem r9_Great_any (d : Nat) (v : Value) (f : Flt) (m : Nat) (w : World) (hv : FltV w w.heap.size d v f) (hl : fLen f) (hm : m ≤ 1000) : Calls Tryz.prog 10 #[v, .int .i64 (m : Int)] w (RetN (FSm m f) w) := by
 have kG := fun (p : Nat) W (hp : w.heap.size ≤ p) (hW : Below w.heap.size w W) => r9_great_any d v f p m W (FltV.mono (FltV.keep hv hW) hp) hl
 obtain ⟨Ap, cp, Ak, ck, rfl, hp, hk⟩ := hv.shape
 clear hp hk hv
 go_enter Tryz.func10, Tryz.ntmps10
 go_upto_region 1 with fail
 with_reducible refine gen1 (R := fun W => Code.wp Tryz.prog _ _ _ W) ?_
 intro W hbW hszW hc _
 have b0 : W.cell? ⟨w.heap.size, 0, none⟩ = some (.int .i64 f.kind) := hc 0 _ rfl
 have b1 : W.cell? ⟨w.heap.size, 1, none⟩ = some (.string (B f.name)) := hc 1 _ rfl
 have b2 : W.cell? ⟨w.heap.size, 2, none⟩ = some (.string (B f.value)) := hc 2 _ rfl
 have b3 : W.cell? ⟨w.heap.size, 3, none⟩ = some (.slice Ap f.parts.length cp) := hc 3 _ rfl
 have b4 : W.cell? ⟨w.heap.size, 4, none⟩ = some (.slice Ak f.kids.length ck) := hc 4 _ rfl
 clear hc hszW
 go_upto_region 2 with fail
 with_reducible refine gen1 (R := fun W => Code.wp Tryz.prog _ _ _ W) ?_
 intro W2 hbW2 hszW2 hc2 hf2
 have p0 : W2.cell? ⟨W.heap.size, 0, none⟩ = some (.int .i64 (m : Int)) := hc2 0 _ rfl
 have hb := hbW.trans (hbW2.mono hbW.size)
 have hG := kG W.heap.size W2 hbW.size hb (by omega) p0 (hf2 0) hm
 replace b0 := cell_later hbW2 b0
 replace b1 := cell_later hbW2 b1
 replace b2 := cell_later hbW2 b2
 replace b3 := cell_later hbW2 b3
 replace b4 := cell_later hbW2 b4
 have hsw := hbW.size
 have hsw2 := hb.size
 clear hc2 hf2 hszW2 hbW2 kG hbW
 go_wp2_with fail
 refine hG.mono ?_
 rintro e w3 ⟨r, m', rfl, _, _, hb3, hr⟩
 have hb' := hb.trans (hb3.below hsw hsw2)
 have HR : Hid (r = false → FSm m f) := fun h => by
  obtain ⟨h1, h2, h3⟩ := hr h
  exact ⟨by omega, h3⟩
 clear hr hG b0 b1 b2 b3 b4 p0
 go_wp2_with fail
 go_ret
 exact ⟨r, rfl, fun h => HR.out h, hb'⟩
end Go.Proofs.YtmamnmjfbadiiaaGreatDoor
