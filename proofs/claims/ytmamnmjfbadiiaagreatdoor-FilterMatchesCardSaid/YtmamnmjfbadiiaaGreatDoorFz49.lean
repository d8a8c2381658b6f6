/- Part 49 of the proof that the statements of identitylaw09 on matching hold at all arguments: the package variables hold what the program lays; nothing else is asked. -/
import Derived.Test.YtmamnmjfbadiiaaGreatDoorFz43
import Derived.Test.YtmamnmjfbadiiaaGreatDoorFz45
import Derived.Test.YtmamnmjfbadiiaaGreatDoorFz48
set_option linter.unusedVariables false
set_option linter.unusedSimpArgs false
set_option maxRecDepth 100000
set_option maxHeartbeats 16000000
/- identityref09: satisfies. -/
namespace Go.Proofs.YtmamnmjfbadiiaaGreatDoor
open Go.RowKit Go.Sort
open Idn (L B Bs drop_L take_L size_L)
theorem r9_sat_any (u : Value) (s : Idn.Sch) (tn : Bs) (ty : Int) (ts : Bool) (v : Value) (f : Flt) (d : Nat) (x : Bs) (w : World) (hu : SchV w w.heap.size u s) (hs : SSm s) (hv : FltV w w.heap.size d v f) (ho : fOk f) (hk4 : isCmp f.kind = true) (hp2 : f.kind = 8 → 2 ≤ f.parts.length) (hx : x.length ≤ 100000000) :
  Calls Tryz.prog 86 #[u, v, .agg #[.string (B tn), .int .i64 ty, .bool ts], .string (B x)] w fun e w' => e = .returned (.bool (satF s ty f.kind f.name f.value f.parts x)) ∧ Below w.heap.size w w' := by
 obtain ⟨o1, o2, o3, o4⟩ := fOk_own ho
 have kN := fun W (hW : Below w.heap.size w W) => r_Normal_any u s (B f.name) (B x) W (SchV.mono (SchV.keep hu hW) hW.size) hs (by rw [Idn.size_B]; omega) (by rw [Idn.size_B]; omega)
 have kC := fun W (hW : Below w.heap.size w W) => r_Compare_any u s (B f.name) (B x) (B f.value) W (SchV.mono (SchV.keep hu hW) hW.size) hs (by rw [Idn.size_B]; omega) (by rw [Idn.size_B]; omega) (by rw [Idn.size_B]; omega)
 obtain ⟨Ap, cp, Ak, ck, rfl, hp, hk⟩ := hv.shape
 have kM := fun W (hW : Below w.heap.size w W) => r1_Match_any (B x) _ f.parts W (SlV.mono (SlV.keep hp hW) hW.size) (by omega) (by rw [Idn.size_B]; omega) (fun y hy => by have := o4 y hy; omega)
 have kX := fun (h2 : 2 ≤ f.parts.length) W (hW : Below w.heap.size w W) => r9_exact_any (B x) _ f.parts W (SlV.mono (SlV.keep hp hW) hW.size) h2 (by omega) (by rw [Idn.size_B]; omega) (fun y hy => by have := o4 y hy; omega)
 simp only [Idn.L_B] at kN kC kM kX
 obtain ⟨sa, sb, rfl, hT, hC⟩ := hu
 obtain ⟨A1, c1, rfl, _⟩ := SlV.shape hT
 obtain ⟨A2, c2, rfl, _⟩ := SlV.shape hC
 have HR : Hid (satF s ty f.kind f.name f.value f.parts x = if f.kind = 7 then true
  else if f.kind = 8 then decide ((sNorm s f.name x).2 = 0) && ((decide (ty = 1) && foldF x f.parts) || (decide (ty = 2) && exactF x f.parts))
  else decide ((sComp s f.name x f.value).2 = 0) && ((decide (f.kind = 4) && decide ((sComp s f.name x f.value).1 = 0)) || ((decide (f.kind = 5) && decide (0 ≤ (sComp s f.name x f.value).1)) || (decide (f.kind = 6) && decide ((sComp s f.name x f.value).1 ≤ 0))))) := rfl
 have hk9 : f.kind = 4 ∨ f.kind = 5 ∨ f.kind = 6 ∨ f.kind = 7 ∨ f.kind = 8 := by obtain ⟨_, _, _, h1, h2⟩ := cmp_kind hk4; omega
 generalize satF s ty f.kind f.name f.value f.parts x = R at *
 generalize sNorm s f.name x = nr at *
 generalize sComp s f.name x f.value = cr at *
 generalize foldF x f.parts = r1 at *
 generalize exactF x f.parts = r2 at *
 obtain ⟨nv, ne⟩ := nr
 obtain ⟨cv, ce⟩ := cr
 dsimp only at kN kC HR
 generalize f.kind = kd at *
 generalize f.name = fn at *
 generalize f.value = fv at *
 clear hT hC hp hk hv hs ho o1 o2 o3 o4 hx hk4
 go_enter Tryz.func86, Tryz.ntmps86
 go_upto_region 1 with fail
 with_reducible refine gen3 (R := fun W => Code.wp Tryz.prog _ _ _ W) ?_
 intro W hbW hszW hc1 hc2 hc3 _
 have s0 : W.cell? ⟨w.heap.size, 0, none⟩ = some (.slice A1 s.types.length c1) := hc1 0 _ rfl
 have s1 : W.cell? ⟨w.heap.size, 1, none⟩ = some (.slice A2 s.classes.length c2) := hc1 1 _ rfl
 have b0 : W.cell? ⟨w.heap.size + 1, 0, none⟩ = some (.int .i64 kd) := hc2 0 _ rfl
 have b1 : W.cell? ⟨w.heap.size + 1, 1, none⟩ = some (.string (B fn)) := hc2 1 _ rfl
 have b2 : W.cell? ⟨w.heap.size + 1, 2, none⟩ = some (.string (B fv)) := hc2 2 _ rfl
 have b3 : W.cell? ⟨w.heap.size + 1, 3, none⟩ = some (.slice Ap f.parts.length cp) := hc2 3 _ rfl
 have e1 : W.cell? ⟨w.heap.size + 1 + 1, 1, none⟩ = some (.int .i64 ty) := hc3 1 _ rfl
 clear hc1 hc2 hc3 hszW
 go_wp2_with fail
 refine (kC W hbW).mono ?_
 rintro e w1 ⟨rfl, hb1⟩
 have hb := hbW.trans (hb1.mono hbW.size)
 replace s0 := cell_later hb1 s0
 replace s1 := cell_later hb1 s1
 replace b0 := cell_later hb1 b0
 replace b1 := cell_later hb1 b1
 replace b2 := cell_later hb1 b2
 replace b3 := cell_later hb1 b3
 replace e1 := cell_later hb1 e1
 clear kC hb1 hbW
 rcases hk9 with rfl | rfl | rfl | rfl | rfl
 ·have HF : Hid (R = (decide (ce = 0) && decide (cv = 0))) := by show _ = _; rw [HR.out]; simp
  clear HR kN kM kX hp2
  by_cases h0 : ce = 0
  ·have hI : (ce == 0) = true := beq_iff_eq.2 h0
   by_cases h1 : cv = 0
   ·have hJ : (cv == 0) = true := beq_iff_eq.2 h1
    have HV : Hid (true = R) := by show _ = _; rw [HF.out, decide_eq_true h0, decide_eq_true h1]; rfl
    clear HF h0 h1
    go_wp2_with fail
    go_ret
    exact ⟨ret_bool HV.out, hb⟩
   ·have hJ : (cv == 0) = false := beq_eq_false_iff_ne.2 h1
    have HV : Hid (false = R) := by show _ = _; rw [HF.out, decide_eq_true h0, decide_eq_false h1]; rfl
    clear HF h0 h1
    go_wp2_with fail
    go_ret
    exact ⟨ret_bool HV.out, hb⟩
  ·have hI : (ce == 0) = false := beq_eq_false_iff_ne.2 h0
   have HV : Hid (false = R) := by show _ = _; rw [HF.out, decide_eq_false h0]; rfl
   clear HF h0
   go_wp2_with fail
   go_ret
   exact ⟨ret_bool HV.out, hb⟩
 ·have HF : Hid (R = (decide (ce = 0) && decide (0 ≤ cv))) := by show _ = _; rw [HR.out]; simp
  clear HR kN kM kX hp2
  by_cases h0 : ce = 0
  ·have hI : (ce == 0) = true := beq_iff_eq.2 h0
   by_cases h1 : 0 ≤ cv
   ·have HV : Hid (true = R) := by show _ = _; rw [HF.out, decide_eq_true h0, decide_eq_true h1]; rfl
    clear HF h0
    go_wp2_with fail
    go_ret
    exact ⟨ret_bool HV.out, hb⟩
   ·have HV : Hid (false = R) := by show _ = _; rw [HF.out, decide_eq_true h0, decide_eq_false h1]; rfl
    have H1 := Lib.hid (decide_eq_false h1)
    clear HF h0
    go_wp2_with fail
    go_ret
    exact ⟨ret_bool (H1.out.trans HV.out), hb⟩
  ·have hI : (ce == 0) = false := beq_eq_false_iff_ne.2 h0
   have HV : Hid (false = R) := by show _ = _; rw [HF.out, decide_eq_false h0]; rfl
   clear HF h0
   go_wp2_with fail
   go_ret
   exact ⟨ret_bool HV.out, hb⟩
 ·have HF : Hid (R = (decide (ce = 0) && decide (cv ≤ 0))) := by show _ = _; rw [HR.out]; simp
  clear HR kN kM kX hp2
  by_cases h0 : ce = 0
  ·have hI : (ce == 0) = true := beq_iff_eq.2 h0
   by_cases h1 : cv ≤ 0
   ·have HV : Hid (true = R) := by show _ = _; rw [HF.out, decide_eq_true h0, decide_eq_true h1]; rfl
    clear HF h0
    go_wp2_with fail
    go_ret
    exact ⟨ret_bool HV.out, hb⟩
   ·have HV : Hid (false = R) := by show _ = _; rw [HF.out, decide_eq_true h0, decide_eq_false h1]; rfl
    have H1 := Lib.hid (decide_eq_false h1)
    clear HF h0
    go_wp2_with fail
    go_ret
    exact ⟨ret_bool (H1.out.trans HV.out), hb⟩
  ·have hI : (ce == 0) = false := beq_eq_false_iff_ne.2 h0
   have HV : Hid (false = R) := by show _ = _; rw [HF.out, decide_eq_false h0]; rfl
   clear HF h0
   go_wp2_with fail
   go_ret
   exact ⟨ret_bool HV.out, hb⟩
 ·have HV : Hid (true = R) := by show _ = _; rw [HR.out]; rfl
  clear HR kN kM kX hp2
  go_wp2_with fail
  go_ret
  exact ⟨ret_bool HV.out, hb⟩
 ·have HF : Hid (R = (decide (ne = 0) && ((decide (ty = 1) && r1) || (decide (ty = 2) && r2)))) := by show _ = _; rw [HR.out]; rfl
  replace kX := kX (hp2 rfl)
  clear HR hp2
  go_wp2_with fail
  refine (kN w1 hb).mono ?_
  rintro e w2 ⟨rfl, hb2⟩
  replace b3 := cell_later hb2 b3
  replace e1 := cell_later hb2 e1
  have hbw := hb.trans (hb2.mono hb.size)
  clear kN hb2 hb s0 s1 b0 b1 b2
  by_cases h0 : ne = 0
  case neg =>
   have hI : (ne == 0) = false := beq_eq_false_iff_ne.2 h0
   have HV : Hid (false = R) := by show _ = _; rw [HF.out, decide_eq_false h0]; rfl
   clear HF h0 kM kX
   go_wp2_with fail
   go_ret
   exact ⟨ret_bool HV.out, hbw⟩
  have hI : (ne == 0) = true := beq_iff_eq.2 h0
  by_cases h1 : ty = 1
  ·have hJ : (ty == 1) = true := beq_iff_eq.2 h1
   have hK : (ty == 2) = false := beq_eq_false_iff_ne.2 (by omega)
   have HV : Hid (r1 = R) := by show _ = _; rw [HF.out, decide_eq_true h0, decide_eq_true h1, decide_eq_false (p := ty = 2) (by omega)]; simp
   clear HF h0 h1 kX
   cases r1
   all_goals
    go_wp2_with fail
    refine (kM w2 hbw).mono ?_
    rintro e w3 ⟨rfl, hb3⟩
    replace e1 := cell_later hb3 e1
    go_wp2_with fail
    go_ret
    exact ⟨ret_bool HV.out, hbw.trans (hb3.mono hbw.size)⟩
  have hJ : (ty == 1) = false := beq_eq_false_iff_ne.2 h1
  by_cases h2 : ty = 2
  ·have hK : (ty == 2) = true := beq_iff_eq.2 h2
   have HV : Hid (r2 = R) := by show _ = _; rw [HF.out, decide_eq_true h0, decide_eq_true h2, decide_eq_false h1]; simp
   clear HF h0 h1 h2 kM
   cases r2
   all_goals
    go_wp2_with fail
    refine (kX w2 hbw).mono ?_
    rintro e w3 ⟨rfl, hb3⟩
    go_wp2_with fail
    go_ret
    exact ⟨ret_bool HV.out, hbw.trans (hb3.mono hbw.size)⟩
  ·have hK : (ty == 2) = false := beq_eq_false_iff_ne.2 h2
   have HV : Hid (false = R) := by show _ = _; rw [HF.out, decide_eq_false h1, decide_eq_false h2]; simp
   clear HF h0 h1 h2 kM kX
   go_wp2_with fail
   go_ret
   exact ⟨ret_bool HV.out, hbw⟩
end Go.Proofs.YtmamnmjfbadiiaaGreatDoor
/- identityref09: match, Match. -/
namespace Go.Proofs.YtmamnmjfbadiiaaGreatDoor
open Go.RowKit Go.Sort
open Idn (L B Bs drop_L take_L size_L)
theorem any_step {p : Flt → Bool} {l : List Flt} {k : Nat} (h : k < l.length) : (l.take (k + 1)).any p = ((l.take k).any p || p l[k]) := by
 rw [List.take_succ_eq_append_getElem h, List.any_append]; simp
theorem all_step {p : Flt → Bool} {l : List Flt} {k : Nat} (h : k < l.length) : (l.take (k + 1)).all p = ((l.take k).all p && p l[k]) := by
 rw [List.take_succ_eq_append_getElem h, List.all_append]; simp
theorem anyb_drop {p : Bs → Bool} {l : List Bs} {k : Nat} (h : k < l.length) : (l.drop k).any p = (p l[k] || (l.drop (k + 1)).any p) := by
 rw [List.drop_eq_getElem_cons h, List.any_cons]
theorem kinds_of {f : Flt} (h : nodeErr f = 0) : (f.kind = 1 ∨ f.kind = 2 ∨ f.kind = 3) ∧ isCmp f.kind = false ∨ (f.kind ≠ 1 ∧ f.kind ≠ 2 ∧ f.kind ≠ 3) ∧ isCmp f.kind = true := by
  cases f with
  | mk k n v ps ks =>
    obtain ⟨k1, k8⟩ := form_kind (ownErr_form (nodeErr_zero.1 h).1)
    show (k = 1 ∨ k = 2 ∨ k = 3) ∧ isCmp k = false ∨ (k ≠ 1 ∧ k ≠ 2 ∧ k ≠ 3) ∧ isCmp k = true
    rcases kind_cases k1 k8 with rfl | hc | ⟨hk, hc⟩
    · exact .inl ⟨by omega, rfl⟩
    · obtain ⟨q1, q2, q3, _⟩ := cmp_kind hc
      exact .inr ⟨⟨q1, q2, q3⟩, hc⟩
    · exact .inl ⟨by omega, hc⟩
theorem r9_match_any : ∀ (d : Nat) (u : Value) (s : Idn.Sch) (v : Value) (f : Flt) (nm : ByteArray) (av : Value) (A : List Idn.Att) (w : World), SchV w w.heap.size u s → SSm s → AttsV w w.heap.size av A → AGet A → FltV w w.heap.size d v f → FSm 1000 f → nodeErr f = 0 →
  Calls Tryz.prog 44 #[u, v, .agg #[.string nm, av]] w fun e w' => e = .returned (.bool (fMat s A f)) ∧ Below w.heap.size w w' := by
 intro d
 induction d using Nat.strongRecOn with
 | _ d ih =>
 intro u s v f nm av A w hu hs ha hA hv hsm hne
 have hks := hsm.kids
 have hkl := hks.len
 have hu0 := hu
 have hv0 := hv
 obtain ⟨Ap, cp, Ak, ck, rfl, hp, hk⟩ := hv.shape
 obtain ⟨sa, sb, rfl, hT, hC⟩ := hu
 obtain ⟨A1, c1, rfl, _⟩ := SlV.shape hT
 obtain ⟨A2, c2, rfl, _⟩ := SlV.shape hC
 obtain ⟨A3, c3, rfl, _⟩ := SlV.shape ha
 have hne' : ∀ g ∈ f.kids, nodeErr g = 0 := by
  cases f; exact (nodeErr_zero.1 hne).2
 have kK := fun (g : Flt) (hg : g ∈ f.kids) (hd : 0 < d) (vg : Value) (W : World) (hW : Below w.heap.size w W) (hvg : FltV W W.heap.size (d - 1) vg g) =>
  ih (d - 1) (by omega) _ s vg g nm _ A W (SchV.mono (SchV.keep hu0 hW) hW.size) hs (AttsV.mono (AttsV.keep ha hW) hW.size) hA hvg (hks.mem hg) (hne' g hg)
 have HR := Lib.hid (fMat_unf s A f)
 have kSat := fun (hcm : isCmp f.kind = true) (tn : Bs) (ty : Int) (ts : Bool) (x : Bs) (hx : x.length ≤ 100000000) W (hW : Below w.heap.size w W) => r9_sat_any _ s tn ty ts _ f d x W (SchV.mono (SchV.keep hu0 hW) hW.size) hs (hv0.on hW) hsm.2 hcm (node_parts hne) hx
 have kT := fun W (hW : Below w.heap.size w W) => r_type_any _ s (B f.name) W (SchV.mono (SchV.keep hu0 hW) hW.size) hs (by rw [Idn.size_B]; have := (fOk_own hsm.2).1; omega)
 have kG := fun W (hW : Below w.heap.size w W) => r6_Get_any _ A (B f.name) W (AttsV.mono (AttsV.keep ha hW) hW.size) hA.1 (by rw [Idn.size_B]; have := (fOk_own hsm.2).1; omega)
 have kC := fun W => r9_comp_any f.kind W
 have kgl := hA.2 f.name
 have hk3 : f.kind = 3 → ∃ g, f.kids = [g] := fun h3 => by
  rcases mov_cases' f hne h3 with ⟨g, hg⟩
  exact ⟨g, hg⟩
 have hkk := kinds_of hne
 simp only [Idn.L_B] at kT kG
 generalize fMat s A f = R at *
 clear hT hC hu0 hv0 hv hsm hs hne hne' hA ih
 go_enter Tryz.func44, Tryz.ntmps44
 go_upto_region 1 with fail
 with_reducible refine gen3 (R := fun W => Code.wp Tryz.prog _ _ _ W) ?_
 intro W hbW hszW hc1 hc2 hc3 _
 have s0 : W.cell? ⟨w.heap.size, 0, none⟩ = some (.slice A1 s.types.length c1) := hc1 0 _ rfl
 have s1 : W.cell? ⟨w.heap.size, 1, none⟩ = some (.slice A2 s.classes.length c2) := hc1 1 _ rfl
 have b0 : W.cell? ⟨w.heap.size + 1, 0, none⟩ = some (.int .i64 f.kind) := hc2 0 _ rfl
 have b1 : W.cell? ⟨w.heap.size + 1, 1, none⟩ = some (.string (B f.name)) := hc2 1 _ rfl
 have b2 : W.cell? ⟨w.heap.size + 1, 2, none⟩ = some (.string (B f.value)) := hc2 2 _ rfl
 have b3 : W.cell? ⟨w.heap.size + 1, 3, none⟩ = some (.slice Ap f.parts.length cp) := hc2 3 _ rfl
 have b4 : W.cell? ⟨w.heap.size + 1, 4, none⟩ = some (.slice Ak f.kids.length ck) := hc2 4 _ rfl
 have e0 : W.cell? ⟨w.heap.size + 1 + 1, 0, none⟩ = some (.string nm) := hc3 0 _ rfl
 have e1 : W.cell? ⟨w.heap.size + 1 + 1, 1, none⟩ = some (.slice A3 A.length c3) := hc3 1 _ rfl
 clear hc1 hc2 hc3 hszW
 by_cases h3 : f.kind = 3
 ·obtain ⟨g, hkg⟩ := hk3 h3
  have HF : Hid (R = !fMat s A g) := by show _ = _; rw [HR.out, if_neg (by omega), if_neg (by omega), if_pos h3, hkg, fAll_eq]; simp
  obtain ⟨gb, off, Ap', cp', Ak', ck', hAk, hgl, g0, g1, g2, g3, g4, hd, hkid⟩ := FltsV.kid2 (FltsV.on hk hbW) (k := 0) (by rw [hkg]; exact Nat.one_pos)
  have hg : f.kids[0]'(by rw [hkg]; exact Nat.one_pos) = g := by simp [hkg]
  rw [hg] at g0 g1 g2 g3 g4 hkid
  simp only [Nat.zero_mul, Nat.add_zero] at g0 g1 g2 g3 g4
  subst hAk
  have hmg : g ∈ f.kids := by rw [hkg]; exact List.mem_cons_self
  have hl1 : f.kids.length = 1 := by rw [hkg]; rfl
  rw [hl1] at b4 hk ⊢
  rw [h3] at b0
  have q1 := cq (W := W) fun V hV => kK g hmg hd _ V (hbW.trans (hV.mono hbW.size)) (hkid.on hV)
  generalize fMat s A g = rg at *
  have i0 := cell_regrown s0
  have i1 := cell_regrown s1
  have i4 := cell_regrown b4
  have j0 := cell_regrown g0
  have j1 := cell_regrown g1
  have j2 := cell_regrown g2
  have j3 := cell_regrown g3
  have j4 := cell_regrown g4
  have i5 := cell_regrown e0
  have i6 := cell_regrown e1
  clear HR h3 kK kSat kT kG kgl hk3 hk hp ha hkid hkg hg hl1 hmg hkl hks kC hkk
  cases rg
  all_goals
   go_wp2_with fail
   refine wp_region_quiet_below (by kernel_rfl) (by kernel_rfl) ?_
   repeat (first | go_big_quiet_step ((go_at_call 44; exact q1 _ _)) | quiet_step ((go_at_call 44; exact q1 _ _)))
   refine wpQuiet_nil ?_
   intro _ hw'
   obtain ⟨⟨dq, osq⟩, hw''⟩ := hw'
   subst hw''
   have hb4 := below_regrown W dq osq
   generalize grow (redrawn W dq) osq = W4 at hb4 ⊢
   go_wp2_with fail
   go_ret
   exact ⟨ret_bool HF.out.symm, hbW.trans (hb4.mono hbW.size)⟩
 have f3 : (f.kind == 3) = false := beq_eq_false_iff_ne.2 h3
 rcases hkk with ⟨hkk, hcm⟩ | ⟨⟨h1, h2, _⟩, hcm⟩
 ·have h12 : f.kind = 1 ∨ (f.kind = 2 ∧ ¬ f.kind = 1) := by omega
  have HF : Hid (R = if f.kind = 1 then f.kids.all (fMat s A) else f.kids.any (fMat s A)) := by
   show _ = _
   rcases h12 with h1 | ⟨h2, h1⟩
   ·rw [HR.out, if_pos h1, if_pos h1, fAll_eq]
   ·rw [HR.out, if_neg h1, if_neg h1, if_pos h2, fAny_eq]
  rw [hcm] at kC
  clear HR kSat kT kG kgl hk3 hkk hp
  go_wp2_with fail
  refine (kC W).mono ?_
  rintro e wd ⟨rfl, rfl⟩
  clear kC
  go_wp2_with fail
  go_loopw [7, 8, 9] (fun a o i wr => ∃ (k : Nat) (xa xo : Bool), k ≤ f.kids.length ∧ a = .bool xa ∧ o = .bool xo ∧ i = .int .i64 k ∧ Below W.heap.size W wr ∧ Hid (xa = (f.kids.take k).all (fMat s A)) ∧ Hid (xo = (f.kids.take k).any (fMat s A))) (fun _ _ i _ => f.kids.length - (intOf i).toNat)
  case atStart => exact ⟨0, true, false, Nat.zero_le _, rfl, rfl, rfl, Below.refl _ _, rfl, rfl⟩
  case round =>
   obtain ⟨k, xa, xo, hk9, rfl, rfl, rfl, hbr, hxa, hxo⟩ := hrel
   obtain ⟨wo, hwo⟩ : ∃ wo : World, wo = wr := ⟨_, rfl⟩
   subst hwo
   have hb := hbW.trans (hbr.mono hbW.size)
   replace b0 := cell_later hbr b0
   replace b4 := cell_later hbr b4
   replace s0 := cell_later hbr s0
   replace s1 := cell_later hbr s1
   replace e0 := cell_later hbr e0
   replace e1 := cell_later hbr e1
   by_cases hlt : k < f.kids.length
   ·obtain ⟨gb, off, Ap', cp', Ak', ck', hAk, hgl, g0, g1, g2, g3, g4, hd, hkid⟩ := FltsV.kid2 (FltsV.on hk hb) hlt
    subst hAk
    have hltI : (k : Int) < (f.kids.length : Int) := by omega
    have hmem := List.getElem_mem hlt
    have q1 := cq (W := wo) fun V hV => kK f.kids[k] hmem hd _ V (hb.trans (hV.mono hb.size)) (hkid.on hV)
    have HXa : Hid ((f.kids.take (k + 1)).all (fMat s A) = (xa && fMat s A f.kids[k])) := by show _ = _; rw [all_step hlt, hxa.out]
    have HXo : Hid ((f.kids.take (k + 1)).any (fMat s A) = (xo || fMat s A f.kids[k])) := by show _ = _; rw [any_step hlt, hxo.out]
    have i0 := cell_regrown s0
    have i1 := cell_regrown s1
    have i4 := cell_regrown b4
    have j0 := cell_regrown g0
    have j1 := cell_regrown g1
    have j2 := cell_regrown g2
    have j3 := cell_regrown g3
    have j4 := cell_regrown g4
    have i5 := cell_regrown e0
    have i6 := cell_regrown e1
    generalize fMat s A f.kids[k] = rk at *
    clear hxa hxo hkid hk kK ha hks
    go_wp2_with fail
    refine wp_region_quiet_below (by kernel_rfl) (by kernel_rfl) ?_
    repeat (first | go_big_quiet_step ((go_at_call 44; exact q1 _ _)) | quiet_step ((go_at_call 44; exact q1 _ _)))
    refine wpQuiet_nil ?_
    intro _ hw'
    obtain ⟨⟨dq, osq⟩, hw''⟩ := hw'
    subst hw''
    have hb4 := below_regrown wo dq osq
    generalize grow (redrawn wo dq) osq = W4 at hb4 ⊢
    clear q1 i0 i1 i4 j0 j1 j2 j3 j4 i5 i6 g0 g1 g2 g3 g4
    cases xa <;> cases xo <;> cases rk
    all_goals
     go_wp2_with fail
     go_roundw
     case rel => exact ⟨k + 1, _, _, by omega, rfl, rfl, by go_num, hbr.trans (hb4.mono hbr.size), by show _ = _; rw [HXa.out]; rfl, by show _ = _; rw [HXo.out]; rfl⟩
     case measure => simp [intOf]; omega
   ·have hltI : ¬ (k : Int) < (f.kids.length : Int) := by omega
    have ha1 := hxa.out
    have ho1 := hxo.out
    rw [List.take_of_length_le (by omega)] at ha1 ho1
    rcases h12 with h1 | ⟨h2, h1⟩
    ·have f1 : (f.kind == 1) = true := beq_iff_eq.2 h1
     have HV : Hid (R = xa) := by show _ = _; rw [HF.out, if_pos h1, ha1]
     clear HF hxa hxo ha1 ho1 hk kK ha
     go_wp2_with fail
     go_ret
     exact ⟨ret_bool HV.out.symm, hb⟩
    ·have f1 : (f.kind == 1) = false := beq_eq_false_iff_ne.2 h1
     have HV : Hid (R = xo) := by show _ = _; rw [HF.out, if_neg h1, ho1]
     clear HF hxa hxo ha1 ho1 hk kK ha
     go_wp2_with fail
     go_ret
     exact ⟨ret_bool HV.out.symm, hb⟩
 ·have HR2 : Hid (R = ((tyLook (sound s) f.name).2 && (rGet A f.name).any fun x => satF s (tyLook (sound s) f.name).1.syn f.kind f.name f.value f.parts x)) := by
   show _ = _; rw [HR.out, if_neg h1, if_neg h2, if_neg h3]; rfl
  replace kSat := kSat hcm
  rw [hcm] at kC
  clear HR kK hk3
  generalize tyLook (sound s) f.name = tl at *
  obtain ⟨⟨tn, ty, ts⟩, ok⟩ := tl
  dsimp only at HR2
  unfold tyV sv at kT
  dsimp only at kT
  go_wp2_with fail
  refine (kC W).mono ?_
  rintro e wd ⟨rfl, rfl⟩
  clear kC
  go_wp2_with fail
  refine (kT W hbW).mono ?_
  rintro e w3 ⟨rfl, hb3⟩
  clear kT
  go_upto_region 15 with fail
  with_reducible refine gen1 (R := fun W => Code.wp Tryz.prog _ _ _ W) ?_
  intro W4 hbW4 hszW4 hc8 _
  have t0 : W4.cell? ⟨w3.heap.size, 0, none⟩ = some (.string (B tn)) := hc8 0 _ rfl
  have t1 : W4.cell? ⟨w3.heap.size, 1, none⟩ = some (.int .i64 ty) := hc8 1 _ rfl
  have t2 : W4.cell? ⟨w3.heap.size, 2, none⟩ = some (.bool ts) := hc8 2 _ rfl
  have hb34 := hb3.trans (hbW4.mono hb3.size)
  have hbw := hbW.trans (hb34.mono hbW.size)
  replace s0 := cell_later hb34 s0
  replace s1 := cell_later hb34 s1
  replace b0 := cell_later hb34 b0
  replace b1 := cell_later hb34 b1
  replace b2 := cell_later hb34 b2
  replace b3 := cell_later hb34 b3
  replace b4 := cell_later hb34 b4
  replace e0 := cell_later hb34 e0
  replace e1 := cell_later hb34 e1
  clear hc8 hszW4 hbW4 hb3 hb34
  cases ok
  ·have HF : Hid (R = false) := HR2.out
   clear HR2 kSat kG kgl hp ha
   go_wp2_with fail
   go_ret
   exact ⟨ret_bool HF.out.symm, hbw⟩
  have HR3 : Hid (R = (rGet A f.name).any fun x => satF s ty f.kind f.name f.value f.parts x) := HR2.out
  clear HR2
  go_wp2_with fail
  refine (kG W4 hbw).mono ?_
  rintro e w5 ⟨A5, n5, c5, rfl, hS5, hb5⟩
  have hn5 := SlV.len hS5
  subst hn5
  replace s0 := cell_later hb5 s0
  replace s1 := cell_later hb5 s1
  replace b0 := cell_later hb5 b0
  replace b1 := cell_later hb5 b1
  replace b2 := cell_later hb5 b2
  replace b3 := cell_later hb5 b3
  replace b4 := cell_later hb5 b4
  replace t0 := cell_later hb5 t0
  replace t1 := cell_later hb5 t1
  replace t2 := cell_later hb5 t2
  have hbw5 := hbw.trans (hb5.mono hbw.size)
  clear kG hb5 hbw e0 e1 hp ha hk
  generalize rGet A f.name = G at *
  have hG9 := kgl.1
  go_wp2_with fail
  go_loopw [14] (fun i wr => ∃ k : Nat, k ≤ G.length ∧ i = .int .i64 k ∧ Below w5.heap.size w5 wr ∧ Hid (R = (G.drop k).any fun x => satF s ty f.kind f.name f.value f.parts x)) (fun i _ => G.length - (intOf i).toNat)
  case atStart => exact ⟨0, Nat.zero_le _, rfl, Below.refl _ _, HR3⟩
  case round =>
   obtain ⟨k, hk9, rfl, hbr, hinv⟩ := hrel
   obtain ⟨wo, hwo⟩ : ∃ wo : World, wo = wr := ⟨_, rfl⟩
   subst hwo
   have hb := hbw5.trans (hbr.mono hbw5.size)
   by_cases hlt : k < G.length
   ·obtain ⟨gb, off, hAg, hgl, d0⟩ := StrsV.cell (SlV.keep hS5 hbr) hlt
    subst hAg
    have hltI : (k : Int) < (G.length : Int) := by omega
    have HST := Lib.hid (anyb_drop (p := fun x => satF s ty f.kind f.name f.value f.parts x) hlt)
    have hxl : G[k].length ≤ 100000000 := kgl.2 _ (List.getElem_mem hlt)
    generalize G[k] = x at *
    have hcl := fun (V : World) (hV : Below wo.heap.size wo V) => kSat tn ty ts x hxl V (hb.trans (hV.mono hb.size))
    have q1 := cq (W := wo) hcl
    have i0 := cell_regrown (cell_later hbr s0)
    have i1 := cell_regrown (cell_later hbr s1)
    have j0 := cell_regrown (cell_later hbr b0)
    have j1 := cell_regrown (cell_later hbr b1)
    have j2 := cell_regrown (cell_later hbr b2)
    have j3 := cell_regrown (cell_later hbr b3)
    have j4 := cell_regrown (cell_later hbr b4)
    have i2 := cell_regrown (cell_later hbr t0)
    have i3 := cell_regrown (cell_later hbr t1)
    have i4 := cell_regrown (cell_later hbr t2)
    have i5 := cell_regrown d0
    clear hcl
    generalize satF s ty f.kind f.name f.value f.parts x = rk at *
    cases rk
    ·have HN : Hid (R = (G.drop (k + 1)).any fun x => satF s ty f.kind f.name f.value f.parts x) := by show _ = _; rw [hinv.out, HST.out]; rfl
     clear hinv HST HR3 kSat kgl
     go_wp2_with fail
     refine wp_region_quiet_below (by kernel_rfl) (by kernel_rfl) ?_
     repeat (first | go_big_quiet_step ((go_at_call 86; exact q1 _ _)) | quiet_step ((go_at_call 86; exact q1 _ _)))
     refine wpQuiet_nil ?_
     intro _ hw'
     obtain ⟨⟨dq, osq⟩, hw''⟩ := hw'
     subst hw''
     have hb6 := below_regrown wo dq osq
     generalize grow (redrawn wo dq) osq = W6 at hb6 ⊢
     go_wp2_with fail
     go_roundw
     case rel => exact ⟨k + 1, by omega, by go_num, hbr.trans (hb6.mono hbr.size), HN⟩
     case measure => simp [intOf]; omega
    ·have HN : Hid (R = true) := by show _ = _; rw [hinv.out, HST.out]; rfl
     clear hinv HST HR3 kSat kgl
     go_wp2_with fail
     refine wp_region_quiet_below (by kernel_rfl) (by kernel_rfl) ?_
     repeat (first | go_big_quiet_step ((go_at_call 86; exact q1 _ _)) | quiet_step ((go_at_call 86; exact q1 _ _)))
     refine wpQuiet_nil ?_
     intro _ hw'
     obtain ⟨⟨dq, osq⟩, hw''⟩ := hw'
     subst hw''
     have hb6 := below_regrown wo dq osq
     generalize grow (redrawn wo dq) osq = W6 at hb6 ⊢
     go_wp2_with fail
     go_ret
     exact ⟨ret_bool HN.out.symm, hb.trans (hb6.mono hb.size)⟩
   ·have hltI : ¬ (k : Int) < (G.length : Int) := by omega
    have HN : Hid (R = false) := by show _ = _; rw [hinv.out, List.drop_eq_nil_of_le (by omega)]; rfl
    clear hinv HR3 kSat kgl
    go_wp2_with fail
    go_ret
    exact ⟨ret_bool HN.out.symm, hb⟩
theorem r9_Match_any (d : Nat) (u : Value) (s : Idn.Sch) (v : Value) (f : Flt) (nm : ByteArray) (av : Value) (A : List Idn.Att) (w : World) (hu : SchV w w.heap.size u s) (hs : SSm s) (ha : AttsV w w.heap.size av A) (hA : AGet A) (hv : FltV w w.heap.size d v f) (hsm : FSm 1000 f) :
  Calls Tryz.prog 23 #[u, v, .agg #[.string nm, av]] w fun e w' => e = .returned (.bool (fMatch s A f)) ∧ Below w.heap.size w w' := by
 have kC := fun W (hW : Below w.heap.size w W) => r9_Check_any d _ f W (hv.on hW) hsm
 have kM := fun (hz : fCheck f = 0) W (hW : Below w.heap.size w W) => r9_match_any d u s v f nm av A W (SchV.mono (SchV.keep hu hW) hW.size) hs (AttsV.mono (AttsV.keep ha hW) hW.size) hA (hv.on hW) hsm (fCheck_zero.1 hz).2.2
 obtain ⟨Ap, cp, Ak, ck, rfl, hp, hk⟩ := hv.shape
 obtain ⟨sa, sb, rfl, hT, hC⟩ := hu
 obtain ⟨A1, c1, rfl, _⟩ := SlV.shape hT
 obtain ⟨A2, c2, rfl, _⟩ := SlV.shape hC
 obtain ⟨A3, c3, rfl, _⟩ := SlV.shape ha
 have HR : Hid (fMatch s A f = (decide (fCheck f = 0) && fMat s A f)) := rfl
 generalize fMatch s A f = R at *
 generalize fMat s A f = m at *
 generalize fCheck f = ec at *
 clear hT hC hp hk hv ha hA hs hsm
 go_enter Tryz.func23, Tryz.ntmps23
 go_upto_region 1 with fail
 with_reducible refine gen3 (R := fun W => Code.wp Tryz.prog _ _ _ W) ?_
 intro W hbW hszW hc1 hc2 hc3 _
 have s0 : W.cell? ⟨w.heap.size, 0, none⟩ = some (.slice A1 s.types.length c1) := hc1 0 _ rfl
 have s1 : W.cell? ⟨w.heap.size, 1, none⟩ = some (.slice A2 s.classes.length c2) := hc1 1 _ rfl
 have b0 : W.cell? ⟨w.heap.size + 1, 0, none⟩ = some (.int .i64 f.kind) := hc2 0 _ rfl
 have b1 : W.cell? ⟨w.heap.size + 1, 1, none⟩ = some (.string (B f.name)) := hc2 1 _ rfl
 have b2 : W.cell? ⟨w.heap.size + 1, 2, none⟩ = some (.string (B f.value)) := hc2 2 _ rfl
 have b3 : W.cell? ⟨w.heap.size + 1, 3, none⟩ = some (.slice Ap f.parts.length cp) := hc2 3 _ rfl
 have b4 : W.cell? ⟨w.heap.size + 1, 4, none⟩ = some (.slice Ak f.kids.length ck) := hc2 4 _ rfl
 have e0 : W.cell? ⟨w.heap.size + 1 + 1, 0, none⟩ = some (.string nm) := hc3 0 _ rfl
 have e1 : W.cell? ⟨w.heap.size + 1 + 1, 1, none⟩ = some (.slice A3 A.length c3) := hc3 1 _ rfl
 clear hc1 hc2 hc3 hszW
 go_wp2_with fail
 refine (kC W hbW).mono ?_
 rintro e w1 ⟨rfl, hb1⟩
 have hb := hbW.trans (hb1.mono hbW.size)
 replace s0 := cell_later hb1 s0
 replace s1 := cell_later hb1 s1
 replace b0 := cell_later hb1 b0
 replace b1 := cell_later hb1 b1
 replace b2 := cell_later hb1 b2
 replace b3 := cell_later hb1 b3
 replace b4 := cell_later hb1 b4
 replace e0 := cell_later hb1 e0
 replace e1 := cell_later hb1 e1
 clear kC hb1 hbW
 by_cases hec : ec = 0
 ·have hI : (ec == 0) = true := beq_iff_eq.2 hec
  have HF : Hid (R = m) := by show _ = _; rw [HR.out, decide_eq_true hec]; rfl
  have hM := kM hec w1 hb
  clear HR kM hec
  go_wp2_with fail
  refine hM.mono ?_
  rintro e w2 ⟨rfl, hb2⟩
  go_wp2_with fail
  go_ret
  exact ⟨ret_bool HF.out.symm, hb.trans (hb2.mono hb.size)⟩
 ·have hI : (ec == 0) = false := beq_eq_false_iff_ne.2 hec
  have HF : Hid (R = false) := by show _ = _; rw [HR.out, decide_eq_false hec]; rfl
  clear HR kM hec
  go_wp2_with fail
  go_ret
  exact ⟨ret_bool HF.out.symm, hb⟩
end Go.Proofs.YtmamnmjfbadiiaaGreatDoor
