/- Part 45 of the proof that identitylaw09.FilterNames returns true at all filters: the package variables hold what the program lays; nothing else is asked. -/
import Derived.Test.YtmamnmjfbadiiaaGreatDoorFna08
import Derived.Test.YtmamnmjfbadiiaaGreatDoorFna38
import Derived.Test.YtmamnmjfbadiiaaGreatDoorFna42
import Derived.Test.YtmamnmjfbadiiaaGreatDoorFna44
set_option linter.unusedVariables false
set_option linter.unusedSimpArgs false
/- filter: Simplify, Equal; slices.EqualFunc at filters. -/
namespace Go.Proofs.YtmamnmjfbadiiaaGreatDoor
open Go.RowKit Go.Sort
open Idn (L B Bs drop_L take_L size_L)
theorem fMov_size : ∀ (f : Flt), nodeErr f = 0 → ∀ b, fSize (fMov b f) ≤ 2 * fSize f := by
  intro f
  induction f using Flt.ind with
  | h k n v ps ks ih =>
    intro hne b
    obtain ⟨h1, h2⟩ := nodeErr_zero.1 hne
    have hf := ownErr_form h1
    obtain ⟨k1, k8⟩ := form_kind hf
    rcases kind_cases k1 k8 with rfl | hc | ⟨hk, hc⟩
    · obtain ⟨_, _, _, e4⟩ := form_not hf
      obtain ⟨g, rfl⟩ := one_kid e4
      rw [fMov_not]
      have := ih g List.mem_cons_self (h2 g List.mem_cons_self) (!b)
      rw [fSize, fSizes, fSizes]; omega
    · rw [fMov_cmp hc]
      have h0 := form_leaf hf hc
      have : ks = [] := List.eq_nil_of_length_eq_zero h0
      subst this
      cases b <;> simp [notF, fSize, fSizes]
    · rw [fMov_set hk, fSize, fSize]
      have : ∀ l : List Flt, (∀ f ∈ l, ∀ b, fSize (fMov b f) ≤ 2 * fSize f) → fSizes (l.map (fMov b)) ≤ 2 * fSizes l := by
        intro l
        induction l with
        | nil => intro _; simp [fSizes]
        | cons g l ihl =>
          intro h
          have a1 := h g List.mem_cons_self b
          have a2 := ihl fun f hf => h f (List.mem_cons_of_mem _ hf)
          rw [List.map_cons, fSizes, fSizes]; omega
      have := this ks fun f hf b => ih f hf (h2 f hf) b
      omega
theorem fOk_mk {k : Int} {n v : Bs} {ps : List Bs} {ks : List Flt} : fOk (.mk k n v ps ks) ↔ (n.length ≤ 100000 ∧ v.length ≤ 100000 ∧ ps.length ≤ 1000 ∧ ∀ x ∈ ps, x.length ≤ 100000) ∧ ∀ g ∈ ks, fOk g := by rw [fOk, fOks_all]
theorem fMov_ok : ∀ (f : Flt), nodeErr f = 0 → fOk f → ∀ b, fOk (fMov b f) := by
  intro f
  induction f using Flt.ind with
  | h k n v ps ks ih =>
    intro hne ho b
    obtain ⟨h1, h2⟩ := nodeErr_zero.1 hne
    have hf := ownErr_form h1
    obtain ⟨k1, k8⟩ := form_kind hf
    obtain ⟨o1, o2⟩ := fOk_mk.1 ho
    rcases kind_cases k1 k8 with rfl | hc | ⟨hk, hc⟩
    · obtain ⟨_, _, _, e4⟩ := form_not hf
      obtain ⟨g, rfl⟩ := one_kid e4
      rw [fMov_not]
      exact ih g List.mem_cons_self (h2 g List.mem_cons_self) (o2 g List.mem_cons_self) (!b)
    · rw [fMov_cmp hc]
      cases b
      · exact ho
      · exact fOk_mk.2 ⟨by simp, by simpa using ho⟩
    · rw [fMov_set hk]
      refine fOk_mk.2 ⟨by simp, fun g hg => ?_⟩
      obtain ⟨x, hx, rfl⟩ := List.mem_map.1 hg
      exact ih x hx (h2 x hx) (o2 x hx) b
theorem fMov_sm {n : Nat} {f : Flt} (h : FSm n f) (hne : nodeErr f = 0) (b : Bool) : FSm (2 * n) (fMov b f) := ⟨by have := fMov_size f hne b; have := h.1; omega, fMov_ok f hne h.2 b⟩
theorem FSm.up {n m : Nat} {f : Flt} (h : FSm n f) (hm : n ≤ m) : FSm m f := ⟨Nat.le_trans h.1 hm, h.2⟩
set_option maxHeartbeats 4000000 in
set_option maxRecDepth 100000 in
theorem simplify_any (d : Nat) (v : Value) (f : Flt) (w : World) (hv : FltV w w.heap.size d v f) (hs : FSm 400 f) : Calls Tryz.prog 28 #[v] w (RetF w (d + 1) (fSimp f)) := by
  have hs1 : FSm 1000 f := hs.up (by decide)
  have kC := fun W (hW : Below w.heap.size w W) => fCheck_any d _ f W (hv.on hW) hs1
  have kL := fun W (hW : Below w.heap.size w W) => clone_any d _ f W (hv.on hW) hs1
  have kS := fun (hz : nodeErr f = 0) W (hW : Below w.heap.size w W) => simple_any d _ f false W (hv.on hW) hs1 hz
  have kZ := fun (hz : fCheck f = 0) => (fCheck_zero.1 hz).2.2
  have HR : Hid (fSimp f = if fCheck f != 0 then f else if fCheck (fMov false f) != 0 then f else fMov false f) := rfl
  have hsm := fun (hz : nodeErr f = 0) => (fMov_sm hs hz false).up (show 2 * 400 ≤ 1000 by decide)
  obtain ⟨Ap, cp, Ak, ck, rfl, hp, hk⟩ := hv.shape
  generalize fSimp f = R at *
  generalize fCheck f = ec at *
  clear hp hk hv hs hs1
  by_cases hec : ec = 0
  case neg =>
    have hI : (ec != 0) = true := by simpa using hec
    have HF : Hid (R = f) := by show _ = _; rw [HR.out, hI]; rfl
    clear HR kS kZ hsm hec
    go_enter Tryz.func28, Tryz.ntmps28
    go_upto_region 1 with fail
    with_reducible refine gen2g (R := fun W => Code.wp Tryz.prog _ _ _ W) ?_
    intro W hbW hszW hc1 hc2 hf1 hf2
    have b0 : W.cell? ⟨w.heap.size, 0, none⟩ = some (.int .i64 f.kind) := hc1 0 _ rfl
    have b1 : W.cell? ⟨w.heap.size, 1, none⟩ = some (.string (B f.name)) := hc1 1 _ rfl
    have b2 : W.cell? ⟨w.heap.size, 2, none⟩ = some (.string (B f.value)) := hc1 2 _ rfl
    have b3 : W.cell? ⟨w.heap.size, 3, none⟩ = some (.slice Ap f.parts.length cp) := hc1 3 _ rfl
    have b4 : W.cell? ⟨w.heap.size, 4, none⟩ = some (.slice Ak f.kids.length ck) := hc1 4 _ rfl
    have B2 : Box5 W (w.heap.size + 1) (.int .i64 0) (.string ⟨#[]⟩) (.string ⟨#[]⟩) (.slice none 0 0) (.slice none 0 0) := ⟨hc2 0 _ rfl, hc2 1 _ rfl, hc2 2 _ rfl, hc2 3 _ rfl, hc2 4 _ rfl, hf2, by omega⟩
    have hlo : w.heap.size + 2 ≤ W.heap.size := by omega
    clear hc1 hc2 hf1 hf2 hszW
    go_wp2_with fail
    refine (kC W hbW).mono ?_
    rintro e w1 ⟨rfl, hb1⟩
    replace b0 := cell_later hb1 b0
    replace b1 := cell_later hb1 b1
    replace b2 := cell_later hb1 b2
    replace b3 := cell_later hb1 b3
    replace b4 := cell_later hb1 b4
    replace B2 := B2.later hb1
    replace hlo : w.heap.size + 2 ≤ w1.heap.size := Nat.le_trans hlo hb1.size
    have hbw1 := hbW.trans (hb1.mono hbW.size)
    clear kC hb1 hbW
    go_wp2_with fail
    refine (kL w1 hbw1).mono ?_
    rintro e w3 ⟨r3, rfl, hn3, hb3⟩
    obtain ⟨A3, k3, A4, k4, hr3⟩ := hn3.shape
    subst hr3
    have hfin := (hn3.sub (Y := fun k => k < w.heap.size + 2) (fun j _ hj => by omega)).deep (show d ≤ d + 1 by omega)
    replace B2 := B2.later hb3
    have hb := hbw1.trans (hb3.mono hbw1.size)
    clear kL b0 b1 b2 b3 b4 hn3
    obtain ⟨z0, z1, z2, z3, z4, zf, zl⟩ := B2
    have g0 := zf 0
    have g1 := zf 1
    have g2 := zf 2
    have g3 := zf 3
    have g4 := zf 4
    clear zf
    go_wp2_with fail
    rw [HF.out]
    exact bodyPost_ret (v := .agg #[.int .i64 f.kind, .string (B f.name), .string (B f.value), .slice A3 f.parts.length k3, .slice A4 f.kids.length k4]) (by simp [results, Tryz.results28, go_sem, z0, z1, z2, z3, z4, g0, g1, g2, g3, g4]) rfl ⟨_, rfl, (hfin.on (Agr.but (put5 (w.heap.size + 1) _ _ _ _ _ _) (by omega))).sub (fun j _ hj => by omega), hb.trans ((put5 (w.heap.size + 1) _ _ _ _ _ _).below (by omega) hb.size)⟩
  have hne := kZ hec
  replace kS := kS hne
  have hsm2 := hsm hne
  have hI : (ec != 0) = false := by simpa using hec
  have HR2 : Hid (R = if fCheck (fMov false f) != 0 then f else fMov false f) := by show _ = _; rw [HR.out, hI]; rfl
  clear HR kZ hsm hec hne
  generalize fMov false f = g at *
  go_enter Tryz.func28, Tryz.ntmps28
  go_upto_region 1 with fail
  with_reducible refine gen2g (R := fun W => Code.wp Tryz.prog _ _ _ W) ?_
  intro W hbW hszW hc1 hc2 hf1 hf2
  have b0 : W.cell? ⟨w.heap.size, 0, none⟩ = some (.int .i64 f.kind) := hc1 0 _ rfl
  have b1 : W.cell? ⟨w.heap.size, 1, none⟩ = some (.string (B f.name)) := hc1 1 _ rfl
  have b2 : W.cell? ⟨w.heap.size, 2, none⟩ = some (.string (B f.value)) := hc1 2 _ rfl
  have b3 : W.cell? ⟨w.heap.size, 3, none⟩ = some (.slice Ap f.parts.length cp) := hc1 3 _ rfl
  have b4 : W.cell? ⟨w.heap.size, 4, none⟩ = some (.slice Ak f.kids.length ck) := hc1 4 _ rfl
  have B2 : Box5 W (w.heap.size + 1) (.int .i64 0) (.string ⟨#[]⟩) (.string ⟨#[]⟩) (.slice none 0 0) (.slice none 0 0) := ⟨hc2 0 _ rfl, hc2 1 _ rfl, hc2 2 _ rfl, hc2 3 _ rfl, hc2 4 _ rfl, hf2, by omega⟩
  have hlo : w.heap.size + 2 ≤ W.heap.size := by omega
  clear hc1 hc2 hf1 hf2 hszW
  go_wp2_with fail
  refine (kC W hbW).mono ?_
  rintro e w1 ⟨rfl, hb1⟩
  replace b0 := cell_later hb1 b0
  replace b1 := cell_later hb1 b1
  replace b2 := cell_later hb1 b2
  replace b3 := cell_later hb1 b3
  replace b4 := cell_later hb1 b4
  replace B2 := B2.later hb1
  replace hlo : w.heap.size + 2 ≤ w1.heap.size := Nat.le_trans hlo hb1.size
  have hbw1 := hbW.trans (hb1.mono hbW.size)
  clear kC hb1 hbW
  go_wp2_with fail
  refine (kS w1 hbw1).mono ?_
  rintro e w2 ⟨r2, rfl, hn2, hb2⟩
  obtain ⟨A3, k3, A4, k4, hr2⟩ := hn2.shape
  subst hr2
  go_upto_region 4 with fail
  with_reducible refine gen1 (R := fun W => Code.wp Tryz.prog _ _ _ W) ?_
  intro W3 hbW3 hszW3 hc3 _
  have y0 : W3.cell? ⟨w2.heap.size, 0, none⟩ = some (.int .i64 g.kind) := hc3 0 _ rfl
  have y1 : W3.cell? ⟨w2.heap.size, 1, none⟩ = some (.string (B g.name)) := hc3 1 _ rfl
  have y2 : W3.cell? ⟨w2.heap.size, 2, none⟩ = some (.string (B g.value)) := hc3 2 _ rfl
  have y3 : W3.cell? ⟨w2.heap.size, 3, none⟩ = some (.slice A3 g.parts.length k3) := hc3 3 _ rfl
  have y4 : W3.cell? ⟨w2.heap.size, 4, none⟩ = some (.slice A4 g.kids.length k4) := hc3 4 _ rfl
  have hb23 := hb2.trans (hbW3.mono hb2.size)
  replace b0 := cell_later hb23 b0
  replace b1 := cell_later hb23 b1
  replace b2 := cell_later hb23 b2
  replace b3 := cell_later hb23 b3
  replace b4 := cell_later hb23 b4
  replace B2 := B2.later hb23
  replace hbw1 : Below w.heap.size w W3 := hbw1.trans (hb23.mono hbw1.size)
  have hn3 := (hn2.sub (Y := fun k => k < w.heap.size + 2) (fun j _ hj => by omega)).on (Agr.later hbW3)
  have hG := fCheck_any (d + 1) _ g W3 hn3.now hsm2
  replace hlo : w.heap.size + 2 ≤ W3.heap.size := by have := hb23.size; omega
  clear hc3 hszW3 hbW3 hb2 hb23 hn2 kS hsm2
  generalize fCheck g = ge at *
  by_cases hge : ge = 0
  case neg =>
    have hJ : (ge != 0) = true := by simpa using hge
    have HF : Hid (R = f) := by show _ = _; rw [HR2.out, hJ]; rfl
    clear HR2 hge hn3
    go_wp2_with fail
    refine hG.mono ?_
    rintro e w4 ⟨rfl, hb4⟩
    replace b0 := cell_later hb4 b0
    replace b1 := cell_later hb4 b1
    replace b2 := cell_later hb4 b2
    replace b3 := cell_later hb4 b3
    replace b4 := cell_later hb4 b4
    replace B2 := B2.later hb4
    replace hlo : w.heap.size + 2 ≤ w4.heap.size := Nat.le_trans hlo hb4.size
    replace hbw1 : Below w.heap.size w w4 := hbw1.trans (hb4.mono hbw1.size)
    clear hG y0 y1 y2 y3 y4 hb4
    go_wp2_with fail
    refine (kL w4 hbw1).mono ?_
    rintro e w3 ⟨r9, rfl, hn3, hb3⟩
    obtain ⟨A9, k9, A8, k8, hr9⟩ := hn3.shape
    subst hr9
    have hfin := (hn3.sub (Y := fun k => k < w.heap.size + 2) (fun j _ hj => by omega)).deep (show d ≤ d + 1 by omega)
    replace B2 := B2.later hb3
    have hb := hbw1.trans (hb3.mono hbw1.size)
    clear kL b0 b1 b2 b3 b4 hn3
    obtain ⟨z0, z1, z2, z3, z4, zf, zl⟩ := B2
    have g0 := zf 0
    have g1 := zf 1
    have g2 := zf 2
    have g3 := zf 3
    have g4 := zf 4
    clear zf
    go_wp2_with fail
    rw [HF.out]
    exact bodyPost_ret (v := .agg #[.int .i64 f.kind, .string (B f.name), .string (B f.value), .slice A9 f.parts.length k9, .slice A8 f.kids.length k8]) (by simp [results, Tryz.results28, go_sem, z0, z1, z2, z3, z4, g0, g1, g2, g3, g4]) rfl ⟨_, rfl, (hfin.on (Agr.but (put5 (w.heap.size + 1) _ _ _ _ _ _) (by omega))).sub (fun j _ hj => by omega), hb.trans ((put5 (w.heap.size + 1) _ _ _ _ _ _).below (by omega) hb.size)⟩
  have hJ : (ge != 0) = false := by simpa using hge
  have HF : Hid (R = g) := by show _ = _; rw [HR2.out, hJ]; rfl
  clear HR2 hge kL b0 b1 b2 b3 b4
  go_wp2_with fail
  refine hG.mono ?_
  rintro e w4 ⟨rfl, hb4⟩
  replace y0 := cell_later hb4 y0
  replace y1 := cell_later hb4 y1
  replace y2 := cell_later hb4 y2
  replace y3 := cell_later hb4 y3
  replace y4 := cell_later hb4 y4
  replace B2 := B2.later hb4
  have hfin := hn3.on (Agr.later hb4)
  have hb : Below w.heap.size w w4 := hbw1.trans (hb4.mono hbw1.size)
  clear hG hn3 hb4 hbw1
  obtain ⟨z0, z1, z2, z3, z4, zf, zl⟩ := B2
  have g0 := zf 0
  have g1 := zf 1
  have g2 := zf 2
  have g3 := zf 3
  have g4 := zf 4
  clear zf
  go_wp2_with fail
  rw [HF.out]
  exact bodyPost_ret (v := .agg #[.int .i64 g.kind, .string (B g.name), .string (B g.value), .slice A3 g.parts.length k3, .slice A4 g.kids.length k4]) (by simp [results, Tryz.results28, go_sem, z0, z1, z2, z3, z4, g0, g1, g2, g3, g4]) rfl ⟨_, rfl, (hfin.on (Agr.but (put5 (w.heap.size + 1) _ _ _ _ _ _) (by omega))).sub (fun j _ hj => by omega), hb.trans ((put5 (w.heap.size + 1) _ _ _ _ _ _).below (by omega) hb.size)⟩
theorem flt_ext {f g : Flt} : f = g ↔ f.kind = g.kind ∧ f.name = g.name ∧ f.value = g.value ∧ f.parts = g.parts ∧ f.kids = g.kids := by
  cases f; cases g; simp [Flt.kind, Flt.name, Flt.value, Flt.parts, Flt.kids]
theorem bool_of (p : Prop) : ∃ b : Bool, b = true ↔ p := by
  by_cases h : p
  · exact ⟨true, iff_of_true rfl h⟩
  · exact ⟨false, iff_of_false nofun h⟩
set_option maxHeartbeats 4000000 in
set_option maxRecDepth 100000 in
theorem eqFK_any (d d' : Nat) (v u : Value) (l m : List Flt) (r : Bool) (hr : r = true ↔ l = m) (w : World) (hv : FltsV w w.heap.size d v l) (hu : FltsV w w.heap.size d' u m) (hl : l.length ≤ 1000) (hm : m.length ≤ 1000)
    (hp : ∀ (W : World) (a b : Value) (f g : Flt) (r : Bool), f ∈ l → g ∈ m → Below w.heap.size w W → 0 < d → FltV W W.heap.size (d - 1) a f → FltV W W.heap.size (d' - 1) b g → (r = true ↔ f = g) → Calls Tryz.prog 27 #[a, b] W fun e w' => e = .returned (.bool r) ∧ Below W.heap.size W w') :
    Calls Tryz.prog 53 #[v, u, .func (.func 27) #[] #[]] w fun e w' => e = .returned (.bool r) ∧ Below w.heap.size w w' := by
  obtain ⟨A, c, rfl, hc⟩ := SlV.shape hv
  obtain ⟨A2, c2, rfl, hc2⟩ := SlV.shape hu
  go_enter Tryz.func53, Tryz.ntmps53
  by_cases h0 : l.length = m.length
  · have h0I : ((l.length : Int) != (m.length : Int)) = false := by rw [h0]; simp
    have H0 := Lib.hid h0
    have HRR := Lib.hid hr
    clear h0 hr
    go_wp2_with fail
    go_loopw [17] (fun i wr => ∃ (k : Nat), k ≤ l.length ∧ i = .int .i64 k ∧ Below w.heap.size w wr ∧ Hid (l.take k = m.take k)) (fun i _ => l.length - (intOf i).toNat)
    case atStart => exact ⟨0, Nat.zero_le _, rfl, Below.refl _ _, rfl⟩
    case round =>
      obtain ⟨k, hk, rfl, hb, hinv⟩ := hrel
      obtain ⟨wo, hwo⟩ : ∃ wo : World, wo = wr := ⟨_, rfl⟩
      subst hwo
      by_cases hlt : k < l.length
      · have h0' : k < m.length := by have := H0.out; omega
        obtain ⟨b1, o1, Ap, cp, Ak, ck, hA, hb1, d0, d1, d2, d3, d4, hd, hk1⟩ := FltsV.kid2 (FltsV.keep hv hb) hlt
        obtain ⟨b2, o2, Ap', cp', Ak', ck', hA2, hb2, e0, e1, e2, e3, e4, hd', hk2⟩ := FltsV.kid2 (FltsV.keep hu hb) h0'
        subst hA hA2
        have hltI : (k : Int) < (l.length : Int) := by omega
        have hltJ : (k : Int) < (m.length : Int) := by omega
        obtain ⟨bb, hbb⟩ := bool_of (l[k] = m[k]'h0')
        have hC := fun (W : World) (hW : Below wo.heap.size wo W) => hp W _ _ l[k] (m[k]'h0') bb (List.getElem_mem _) (List.getElem_mem _) (hb.trans (hW.mono hb.size)) hd (FltV.on (FltV.mono hk1 hb.size) hW) (FltV.on (FltV.mono hk2 hb.size) hW) hbb
        have hfl : bb = false → l ≠ m := fun h e => by
          subst e
          rw [hbb.2 rfl] at h; cases h
        have htr : bb = true → Hid (l.take (k + 1) = m.take (k + 1)) := fun h => by
          show _ = _
          rw [List.take_succ_eq_append_getElem hlt, List.take_succ_eq_append_getElem h0', hinv.out, hbb.1 h]
        clear hinv hp hk1 hk2 hbb
        generalize l[k].kind = n1 at *
        generalize l[k].name = n2 at *
        generalize l[k].value = n3 at *
        generalize l[k].parts.length = n4 at *
        generalize l[k].kids.length = n5 at *
        generalize (m[k]'h0').kind = m1 at *
        generalize (m[k]'h0').name = m2 at *
        generalize (m[k]'h0').value = m3 at *
        generalize (m[k]'h0').parts.length = m4 at *
        generalize (m[k]'h0').kids.length = m5 at *
        go_upto_region 6 with fail
        with_reducible refine gen1 (R := fun W => Code.wp Tryz.prog _ _ _ W) ?_
        intro W6 hbW6 hszW6 hc6 _
        have x0 : W6.cell? ⟨wo.heap.size, 0, none⟩ = some (.int .i64 n1) := hc6 0 _ rfl
        have x1 : W6.cell? ⟨wo.heap.size, 1, none⟩ = some (.string (B n2)) := hc6 1 _ rfl
        have x2 : W6.cell? ⟨wo.heap.size, 2, none⟩ = some (.string (B n3)) := hc6 2 _ rfl
        have x3 : W6.cell? ⟨wo.heap.size, 3, none⟩ = some (.slice Ap n4 cp) := hc6 3 _ rfl
        have x4 : W6.cell? ⟨wo.heap.size, 4, none⟩ = some (.slice Ak n5 ck) := hc6 4 _ rfl
        replace e0 := cell_later hbW6 e0
        replace e1 := cell_later hbW6 e1
        replace e2 := cell_later hbW6 e2
        replace e3 := cell_later hbW6 e3
        replace e4 := cell_later hbW6 e4
        clear hc6 d0 d1 d2 d3 d4 hszW6
        go_upto_region 7 with fail
        with_reducible refine gen1 (R := fun W => Code.wp Tryz.prog _ _ _ W) ?_
        intro W7 hbW7 hszW7 hc7 _
        have y0 : W7.cell? ⟨W6.heap.size, 0, none⟩ = some (.int .i64 m1) := hc7 0 _ rfl
        have y1 : W7.cell? ⟨W6.heap.size, 1, none⟩ = some (.string (B m2)) := hc7 1 _ rfl
        have y2 : W7.cell? ⟨W6.heap.size, 2, none⟩ = some (.string (B m3)) := hc7 2 _ rfl
        have y3 : W7.cell? ⟨W6.heap.size, 3, none⟩ = some (.slice Ap' m4 cp') := hc7 3 _ rfl
        have y4 : W7.cell? ⟨W6.heap.size, 4, none⟩ = some (.slice Ak' m5 ck') := hc7 4 _ rfl
        replace x0 := cell_later hbW7 x0
        replace x1 := cell_later hbW7 x1
        replace x2 := cell_later hbW7 x2
        replace x3 := cell_later hbW7 x3
        replace x4 := cell_later hbW7 x4
        have hB2 : Below wo.heap.size wo W7 := hbW6.trans (hbW7.mono hbW6.size)
        have hC7 := hC W7 hB2
        clear hc7 e0 e1 e2 e3 e4 hszW7 hbW6 hbW7 hC
        go_wp2_with fail
        refine hC7.mono ?_
        rintro e w2 ⟨rfl, hb7⟩
        replace hb7 := (hb.trans (hB2.mono hb.size)).trans (hb7.mono (hb.trans (hB2.mono hb.size)).size)
        clear hC7 x0 x1 x2 x3 x4 y0 y1 y2 y3 y4
        cases bb
        · have HN := Lib.hid (no_true HRR.out (hfl rfl))
          clear hfl htr
          go_wp2_with fail
          go_ret
          exact ⟨ret_bool HN.out.symm, hb7⟩
        · have HF := htr rfl
          clear hfl htr
          go_wp2_with fail
          go_roundw
          case rel => exact ⟨k + 1, by omega, by go_num, hb7, HF⟩
          case measure => simp [intOf]; omega
      · have hltI : ¬ (k : Int) < (l.length : Int) := by omega
        have hltJ : ¬ (k : Int) < (m.length : Int) := by have := H0.out; omega
        have HF : Hid (r = true) := HRR.out.2 (by
          have h1 := hinv.out
          have h2 := H0.out
          rwa [List.take_of_length_le (by omega), List.take_of_length_le (by omega)] at h1)
        clear hinv
        go_wp2_with fail
        go_ret
        exact ⟨ret_bool HF.out.symm, hb⟩
  · have h0I : ((l.length : Int) != (m.length : Int)) = true := by rw [bne_iff_ne]; omega
    have HF := Lib.hid (no_true hr fun h => h0 (by rw [h]))
    go_wp2_with fail
    go_ret
    exact ⟨ret_bool HF.out.symm, Below.refl _ _⟩
theorem b_ne {a b : Bs} (h : a ≠ b) : ((B a).toList == (B b).toList) = false := by
  rw [toList_L, toList_L, Idn.L_B, Idn.L_B]; exact beq_eq_false_iff_ne.2 h
set_option maxHeartbeats 4000000 in
set_option maxRecDepth 100000 in
theorem fEqual_any : ∀ (d d' : Nat) (v u : Value) (f g : Flt) (r : Bool) (w : World), FltV w w.heap.size d v f → FltV w w.heap.size d' u g → FSm 1000 f → FSm 1000 g → (r = true ↔ f = g) →
    Calls Tryz.prog 27 #[v, u] w fun e w' => e = .returned (.bool r) ∧ Below w.heap.size w w' := by
  intro d
  induction d using Nat.strongRecOn with
  | _ d ih =>
  intro d' v u f g r w hv hu hs ht hr
  obtain ⟨Ap, cp, Ak, ck, rfl, hp, hk⟩ := hv.shape
  obtain ⟨Aq, cq, Al, cl, rfl, hq, hl⟩ := hu.shape
  have o3 := (fOk_own hs.2).2.2.1
  have q3 := (fOk_own ht.2).2.2.1
  have hE1 := fun W (hW : Below w.heap.size w W) => equalS_any _ _ f.parts g.parts W _ _ (SlV.keep hp hW) (SlV.keep hq hW) (by omega) (by omega)
  have hE2 := fun (b : Bool) (hb : b = true ↔ f.kids = g.kids) W (hW : Below w.heap.size w W) => eqFK_any d d' _ _ f.kids g.kids b hb W (FltsV.on hk hW) (FltsV.on hl hW) hs.kids.len ht.kids.len fun W' a b x y r' hx hy _ h0 h1 h2 h3 => ih (d - 1) (by omega) (d' - 1) a b x y r' W' h1 h2 (hs.kids.mem hx) (ht.kids.mem hy) h3
  have HR : Hid (r = true ↔ f.kind = g.kind ∧ f.name = g.name ∧ f.value = g.value ∧ f.parts = g.parts ∧ f.kids = g.kids) := hr.trans flt_ext
  obtain ⟨kb, hkb⟩ := bool_of (f.kids = g.kids)
  replace hE2 := hE2 kb hkb
  clear ih hp hq hk hl hv hu hr o3 q3
  have HKB := Lib.hid hkb
  clear hkb
  generalize f.kind = fk at *
  generalize g.kind = gk at *
  generalize f.name = fn at *
  generalize g.name = gn at *
  generalize f.value = fv at *
  generalize g.value = gv at *
  by_cases h1 : fk = gk
  case neg =>
    have t1 : (fk == gk) = false := beq_eq_false_iff_ne.2 h1
    have HF := Lib.hid (no_true HR.out fun h => h1 h.1)
    clear h1
    clear HR hE1 hE2
    go_enter Tryz.func27, Tryz.ntmps27
    go_upto_region 1 with fail
    with_reducible refine gen2 (R := fun W => Code.wp Tryz.prog _ _ _ W) ?_
    intro W hbW hszW hc1 hc2
    have x0 : W.cell? ⟨w.heap.size, 0, none⟩ = some (.int .i64 fk) := hc1 0 _ rfl
    have x1 : W.cell? ⟨w.heap.size, 1, none⟩ = some (.string (B fn)) := hc1 1 _ rfl
    have x2 : W.cell? ⟨w.heap.size, 2, none⟩ = some (.string (B fv)) := hc1 2 _ rfl
    have x3 : W.cell? ⟨w.heap.size, 3, none⟩ = some (.slice Ap f.parts.length cp) := hc1 3 _ rfl
    have x4 : W.cell? ⟨w.heap.size, 4, none⟩ = some (.slice Ak f.kids.length ck) := hc1 4 _ rfl
    have y0 : W.cell? ⟨w.heap.size + 1, 0, none⟩ = some (.int .i64 gk) := hc2 0 _ rfl
    have y1 : W.cell? ⟨w.heap.size + 1, 1, none⟩ = some (.string (B gn)) := hc2 1 _ rfl
    have y2 : W.cell? ⟨w.heap.size + 1, 2, none⟩ = some (.string (B gv)) := hc2 2 _ rfl
    have y3 : W.cell? ⟨w.heap.size + 1, 3, none⟩ = some (.slice Aq g.parts.length cq) := hc2 3 _ rfl
    have y4 : W.cell? ⟨w.heap.size + 1, 4, none⟩ = some (.slice Al g.kids.length cl) := hc2 4 _ rfl
    clear hc1 hc2 hszW
    go_wp2_with fail
    go_ret
    exact ⟨ret_bool HF.out.symm, hbW⟩
  subst h1
  by_cases h2 : fn = gn
  case neg =>
    have t2 := b_ne h2
    have HF := Lib.hid (no_true HR.out fun h => h2 h.2.1)
    clear h2
    clear HR hE1 hE2
    go_enter Tryz.func27, Tryz.ntmps27
    go_upto_region 1 with fail
    with_reducible refine gen2 (R := fun W => Code.wp Tryz.prog _ _ _ W) ?_
    intro W hbW hszW hc1 hc2
    have x0 : W.cell? ⟨w.heap.size, 0, none⟩ = some (.int .i64 fk) := hc1 0 _ rfl
    have x1 : W.cell? ⟨w.heap.size, 1, none⟩ = some (.string (B fn)) := hc1 1 _ rfl
    have x2 : W.cell? ⟨w.heap.size, 2, none⟩ = some (.string (B fv)) := hc1 2 _ rfl
    have x3 : W.cell? ⟨w.heap.size, 3, none⟩ = some (.slice Ap f.parts.length cp) := hc1 3 _ rfl
    have x4 : W.cell? ⟨w.heap.size, 4, none⟩ = some (.slice Ak f.kids.length ck) := hc1 4 _ rfl
    have y0 : W.cell? ⟨w.heap.size + 1, 0, none⟩ = some (.int .i64 fk) := hc2 0 _ rfl
    have y1 : W.cell? ⟨w.heap.size + 1, 1, none⟩ = some (.string (B gn)) := hc2 1 _ rfl
    have y2 : W.cell? ⟨w.heap.size + 1, 2, none⟩ = some (.string (B gv)) := hc2 2 _ rfl
    have y3 : W.cell? ⟨w.heap.size + 1, 3, none⟩ = some (.slice Aq g.parts.length cq) := hc2 3 _ rfl
    have y4 : W.cell? ⟨w.heap.size + 1, 4, none⟩ = some (.slice Al g.kids.length cl) := hc2 4 _ rfl
    clear hc1 hc2 hszW
    go_wp2_with fail
    go_ret
    exact ⟨ret_bool HF.out.symm, hbW⟩
  subst h2
  by_cases h3 : fv = gv
  case neg =>
    have t3 := b_ne h3
    have HF := Lib.hid (no_true HR.out fun h => h3 h.2.2.1)
    clear h3
    clear HR hE1 hE2
    go_enter Tryz.func27, Tryz.ntmps27
    go_upto_region 1 with fail
    with_reducible refine gen2 (R := fun W => Code.wp Tryz.prog _ _ _ W) ?_
    intro W hbW hszW hc1 hc2
    have x0 : W.cell? ⟨w.heap.size, 0, none⟩ = some (.int .i64 fk) := hc1 0 _ rfl
    have x1 : W.cell? ⟨w.heap.size, 1, none⟩ = some (.string (B fn)) := hc1 1 _ rfl
    have x2 : W.cell? ⟨w.heap.size, 2, none⟩ = some (.string (B fv)) := hc1 2 _ rfl
    have x3 : W.cell? ⟨w.heap.size, 3, none⟩ = some (.slice Ap f.parts.length cp) := hc1 3 _ rfl
    have x4 : W.cell? ⟨w.heap.size, 4, none⟩ = some (.slice Ak f.kids.length ck) := hc1 4 _ rfl
    have y0 : W.cell? ⟨w.heap.size + 1, 0, none⟩ = some (.int .i64 fk) := hc2 0 _ rfl
    have y1 : W.cell? ⟨w.heap.size + 1, 1, none⟩ = some (.string (B fn)) := hc2 1 _ rfl
    have y2 : W.cell? ⟨w.heap.size + 1, 2, none⟩ = some (.string (B gv)) := hc2 2 _ rfl
    have y3 : W.cell? ⟨w.heap.size + 1, 3, none⟩ = some (.slice Aq g.parts.length cq) := hc2 3 _ rfl
    have y4 : W.cell? ⟨w.heap.size + 1, 4, none⟩ = some (.slice Al g.kids.length cl) := hc2 4 _ rfl
    clear hc1 hc2 hszW
    go_wp2_with fail
    go_ret
    exact ⟨ret_bool HF.out.symm, hbW⟩
  subst h3
  by_cases h4 : f.parts = g.parts
  case neg =>
    have t4 : (f.parts == g.parts) = false := beq_eq_false_iff_ne.2 h4
    have HF := Lib.hid (no_true HR.out fun h => h4 h.2.2.2.1)
    rw [t4] at hE1
    clear h4 HR hE2
    go_enter Tryz.func27, Tryz.ntmps27
    go_upto_region 1 with fail
    with_reducible refine gen2 (R := fun W => Code.wp Tryz.prog _ _ _ W) ?_
    intro W hbW hszW hc1 hc2
    have x0 : W.cell? ⟨w.heap.size, 0, none⟩ = some (.int .i64 fk) := hc1 0 _ rfl
    have x1 : W.cell? ⟨w.heap.size, 1, none⟩ = some (.string (B fn)) := hc1 1 _ rfl
    have x2 : W.cell? ⟨w.heap.size, 2, none⟩ = some (.string (B fv)) := hc1 2 _ rfl
    have x3 : W.cell? ⟨w.heap.size, 3, none⟩ = some (.slice Ap f.parts.length cp) := hc1 3 _ rfl
    have x4 : W.cell? ⟨w.heap.size, 4, none⟩ = some (.slice Ak f.kids.length ck) := hc1 4 _ rfl
    have y0 : W.cell? ⟨w.heap.size + 1, 0, none⟩ = some (.int .i64 fk) := hc2 0 _ rfl
    have y1 : W.cell? ⟨w.heap.size + 1, 1, none⟩ = some (.string (B fn)) := hc2 1 _ rfl
    have y2 : W.cell? ⟨w.heap.size + 1, 2, none⟩ = some (.string (B fv)) := hc2 2 _ rfl
    have y3 : W.cell? ⟨w.heap.size + 1, 3, none⟩ = some (.slice Aq g.parts.length cq) := hc2 3 _ rfl
    have y4 : W.cell? ⟨w.heap.size + 1, 4, none⟩ = some (.slice Al g.kids.length cl) := hc2 4 _ rfl
    clear hc1 hc2 hszW
    go_wp2_with fail
    refine (hE1 W hbW).mono ?_
    rintro e w2 ⟨rfl, q, rfl⟩
    go_wp2_with fail
    go_ret
    exact ⟨ret_bool HF.out.symm, hbW.trans ((below_drew0 W q).mono hbW.size)⟩
  have t4 : (f.parts == g.parts) = true := beq_iff_eq.2 h4
  have HF : Hid (r = kb) := by
    have h1 := HR.out
    have h2 := HKB.out
    show _ = _
    rw [Bool.eq_iff_iff, h1, h2]
    exact ⟨fun h => h.2.2.2.2, fun h => ⟨rfl, rfl, rfl, h4, h⟩⟩
  rw [t4] at hE1
  clear h4 HR HKB
  go_enter Tryz.func27, Tryz.ntmps27
  go_upto_region 1 with fail
  with_reducible refine gen2 (R := fun W => Code.wp Tryz.prog _ _ _ W) ?_
  intro W hbW hszW hc1 hc2
  have x0 : W.cell? ⟨w.heap.size, 0, none⟩ = some (.int .i64 fk) := hc1 0 _ rfl
  have x1 : W.cell? ⟨w.heap.size, 1, none⟩ = some (.string (B fn)) := hc1 1 _ rfl
  have x2 : W.cell? ⟨w.heap.size, 2, none⟩ = some (.string (B fv)) := hc1 2 _ rfl
  have x3 : W.cell? ⟨w.heap.size, 3, none⟩ = some (.slice Ap f.parts.length cp) := hc1 3 _ rfl
  have x4 : W.cell? ⟨w.heap.size, 4, none⟩ = some (.slice Ak f.kids.length ck) := hc1 4 _ rfl
  have y0 : W.cell? ⟨w.heap.size + 1, 0, none⟩ = some (.int .i64 fk) := hc2 0 _ rfl
  have y1 : W.cell? ⟨w.heap.size + 1, 1, none⟩ = some (.string (B fn)) := hc2 1 _ rfl
  have y2 : W.cell? ⟨w.heap.size + 1, 2, none⟩ = some (.string (B fv)) := hc2 2 _ rfl
  have y3 : W.cell? ⟨w.heap.size + 1, 3, none⟩ = some (.slice Aq g.parts.length cq) := hc2 3 _ rfl
  have y4 : W.cell? ⟨w.heap.size + 1, 4, none⟩ = some (.slice Al g.kids.length cl) := hc2 4 _ rfl
  clear hc1 hc2 hszW
  go_wp2_with fail
  refine (hE1 W hbW).mono ?_
  rintro e w2 ⟨rfl, q, rfl⟩
  have hb2 := below_drew0 W q
  generalize W.drewN q = w2 at *
  replace x4 := cell_later hb2 x4
  replace y4 := cell_later hb2 y4
  replace hb2 := hbW.trans (hb2.mono hbW.size)
  have hE := hE2 w2 hb2
  clear hE1 hE2 x0 x1 x2 x3 y0 y1 y2 y3
  go_wp2_with fail
  refine hE.mono ?_
  rintro e w3 ⟨rfl, hb3⟩
  go_wp2_with fail
  go_ret
  exact ⟨ret_bool HF.out.symm, hb2.trans (hb3.mono hb2.size)⟩
end Go.Proofs.YtmamnmjfbadiiaaGreatDoor
/- identityref09: form, node, Check. -/
namespace Go.Proofs.YtmamnmjfbadiiaaGreatDoor
open Go.RowKit Go.Sort
open Idn (L B Bs drop_L take_L size_L)
set_option maxHeartbeats 4000000 in
set_option maxRecDepth 100000 in
theorem r9_form_any (v : Value) (f : Flt) (d : Nat) (w : World) (hv : FltV w w.heap.size d v f) (hl : f.parts.length ≤ 1000000000) :
    Calls Tryz.prog 65 #[v] w fun e w' => e = .returned (.bool (formF f.kind f.name f.value f.parts f.kids.length)) ∧ Below w.heap.size w w' := by
  obtain ⟨Ap, cp, Ak, ck, rfl, hp, hk⟩ := hv.shape
  have hP := fun W (hW : Below w.heap.size w W) => r9_parts_any _ f.parts W (SlV.mono (SlV.keep hp hW) hW.size) hl
  rw [formF_B]
  have tn := empty_beq f.name
  have tv := empty_beq f.value
  have hep : f.parts.isEmpty = decide (f.parts.length = 0) := by cases f.parts <;> simp
  generalize partsF f.parts = pp at *
  generalize f.name.isEmpty = en at *
  generalize f.value.isEmpty = ev at *
  generalize B f.name = bn at *
  generalize B f.value = bv at *
  rw [hep]
  generalize f.parts.length = np at *
  generalize f.kids.length = m at *
  generalize f.kind = k at *
  clear hp hk hep hv
  have hnp : np = 0 ∨ ((np : Int) == 0) = false ∧ np ≠ 0 := by
    by_cases h : np = 0
    · exact .inl h
    · exact .inr ⟨by rw [beq_eq_false_iff_ne]; omega, h⟩
  go_enter Tryz.func65, Tryz.ntmps65
  go_upto_region 1 with fail
  with_reducible refine gen1 (R := fun W => Code.wp Tryz.prog _ _ _ W) ?_
  intro W hbW hszW hc _
  have b0 : W.cell? ⟨w.heap.size, 0, none⟩ = some (.int .i64 k) := hc 0 _ rfl
  have b1 : W.cell? ⟨w.heap.size, 1, none⟩ = some (.string bn) := hc 1 _ rfl
  have b2 : W.cell? ⟨w.heap.size, 2, none⟩ = some (.string bv) := hc 2 _ rfl
  have b3 : W.cell? ⟨w.heap.size, 3, none⟩ = some (.slice Ap np cp) := hc 3 _ rfl
  have b4 : W.cell? ⟨w.heap.size, 4, none⟩ = some (.slice Ak m ck) := hc 4 _ rfl
  clear hc hszW
  rcases kinds k with rfl | rfl | rfl | rfl | rfl | rfl | rfl | rfl | hk9
  iterate 2
    · rcases hnp with rfl | ⟨p1, p2⟩ <;> cases en <;> cases ev <;> (go_wp2_with fail; go_ret; exact ⟨ret_bool (by simp [formB, *]), hbW⟩)
  · rcases hnp with rfl | ⟨p1, p2⟩ <;> rcases kids3 m with rfl | rfl | ⟨m1, m2, m3, m4⟩ <;> cases en <;> cases ev <;> (go_wp2_with fail; go_ret; exact ⟨ret_bool (by simp [formB, *]), hbW⟩)
  iterate 3
    · rcases hnp with rfl | ⟨p1, p2⟩ <;> rcases kids3 m with rfl | rfl | ⟨m1, m2, m3, m4⟩ <;> (go_wp2_with fail; go_ret; exact ⟨ret_bool (by simp [formB, *]), hbW⟩)
  · rcases hnp with rfl | ⟨p1, p2⟩ <;> rcases kids3 m with rfl | rfl | ⟨m1, m2, m3, m4⟩ <;> cases ev <;> (go_wp2_with fail; go_ret; exact ⟨ret_bool (by simp [formB, *]), hbW⟩)
  · rcases kids3 m with rfl | rfl | ⟨m1, m2, m3, m4⟩ <;> cases ev
    all_goals
      first
        | (go_wp2_with fail
           go_ret
           exact ⟨ret_bool (by simp [formB, *]), hbW⟩)
        | (go_wp2_with fail
           refine (hP W hbW).mono ?_
           rintro e w2 ⟨rfl, rfl⟩
           go_wp2_with fail
           go_ret
           exact ⟨ret_bool (by simp [formB]), hbW⟩)
  · have HF : Hid (∀ a b c m p, formB k a b c m p = false) := formB_other hk9
    obtain ⟨e1, e2, e3, e4, e5, e6, e7, e8⟩ := hk9
    go_wp2_with fail
    go_ret
    exact ⟨ret_bool (by rw [HF.out]), hbW⟩
theorem all_drop {p : Bs → Bool} {l : List Bs} {k : Nat} (h : k < l.length) : ((l.drop k).any p) = (p l[k] || (l.drop (k + 1)).any p) := by
  rw [List.drop_eq_getElem_cons h, List.any_cons]
set_option maxHeartbeats 8000000 in
set_option maxRecDepth 100000 in
theorem r9_node_any : ∀ (d : Nat) (v : Value) (f : Flt) (w : World), FltV w w.heap.size d v f → FSm 1000 f →
    Calls Tryz.prog 37 #[v] w fun e w' => e = .returned (.int .i64 (nodeErr f)) ∧ Below w.heap.size w w' := by
  intro d
  induction d using Nat.strongRecOn with
  | _ d ih =>
  intro v f w hv hs
  obtain ⟨Ap, cp, Ak, ck, rfl, hp, hk⟩ := hv.shape
  have hks := hs.kids
  have hkl := hks.len
  obtain ⟨o1, o2, o3, o4⟩ := fOk_own hs.2
  have kF := fun W (hW : Below w.heap.size w W) => r9_form_any _ f d W (hv.on hW) (by omega)
  have kC := fun W => r9_comp_any f.kind W
  have kN := fun W => r_name_any (B f.name) W (by rw [Idn.size_B]; omega)
  have kL := fun W => r_clean_any (B f.value) W (by rw [Idn.size_B]; omega)
  have kP := fun (x : Bs) (hx : x ∈ f.parts) W => r9_print_any (B x) W (by rw [Idn.size_B]; have := o4 x hx; omega)
  simp only [Idn.L_B] at kN kL kP
  have HE : Hid (nodeErr f = if ownErr f.kind f.name f.value f.parts f.kids.length != 0 then ownErr f.kind f.name f.value f.parts f.kids.length else nodeErrs f.kids) := nodeErr_unf f
  have HO : Hid (ownErr f.kind f.name f.value f.parts f.kids.length = if !formF f.kind f.name f.value f.parts f.kids.length then 4 else if isCmp f.kind then (if !Idn.name f.name then 5 else if (decide (f.kind ≤ 6) && !Idn.clean f.value) || f.parts.any fun s => !prtF s then 8 else 0) else 0) := rfl
  have HR4 : Hid ((f.parts.any fun s => !prtF s) = (f.parts.drop 0).any fun s => !prtF s) := rfl
  generalize ownErr f.kind f.name f.value f.parts f.kids.length = oe at *
  generalize formF f.kind f.name f.value f.parts f.kids.length = r1 at *
  generalize isCmp f.kind = r5 at *
  generalize Idn.name f.name = r2 at *
  generalize Idn.clean f.value = r3 at *
  generalize (f.parts.any fun s => !prtF s) = r4 at *
  generalize nodeErr f = ne at *
  clear hv o1 o2 o4
  go_enter Tryz.func37, Tryz.ntmps37
  go_upto_region 1 with fail
  with_reducible refine gen1 (R := fun W => Code.wp Tryz.prog _ _ _ W) ?_
  intro W hbW hszW hc _
  have b0 : W.cell? ⟨w.heap.size, 0, none⟩ = some (.int .i64 f.kind) := hc 0 _ rfl
  have b1 : W.cell? ⟨w.heap.size, 1, none⟩ = some (.string (B f.name)) := hc 1 _ rfl
  have b2 : W.cell? ⟨w.heap.size, 2, none⟩ = some (.string (B f.value)) := hc 2 _ rfl
  have b3 : W.cell? ⟨w.heap.size, 3, none⟩ = some (.slice Ap f.parts.length cp) := hc 3 _ rfl
  have b4 : W.cell? ⟨w.heap.size, 4, none⟩ = some (.slice Ak f.kids.length ck) := hc 4 _ rfl
  clear hc hszW
  go_wp2_with fail
  refine (kF W hbW).mono ?_
  rintro e w1 ⟨rfl, hb1⟩
  replace b0 := cell_later hb1 b0
  replace b1 := cell_later hb1 b1
  replace b2 := cell_later hb1 b2
  replace b3 := cell_later hb1 b3
  replace b4 := cell_later hb1 b4
  have hbX := hbW.trans (hb1.mono hbW.size)
  clear hb1 hbW kF
  cases r1
  · have HF : Hid (ne = 4) := by show _ = _; rw [HE.out, HO.out]; rfl
    clear HE HO HR4 kC kN kL kP ih hk hp
    go_wp2_with fail
    go_ret
    exact ⟨ret_int HF.out.symm, hbX⟩
  cases r5
  · have HF : Hid (ne = nodeErrs (f.kids.drop 0)) := by show _ = _; rw [HE.out, HO.out]; rfl
    clear HE HO HR4 kN kL kP hp
    go_wp2_with fail
    refine (kC w1).mono ?_
    rintro e wd ⟨rfl, rfl⟩
    clear kC
    clear b0 b1 b2 b3
    go_wp2_with fail
    go_loopw [4] (fun i wr => ∃ k : Nat, k ≤ f.kids.length ∧ i = .int .i64 (k : Int) ∧ Below w1.heap.size w1 wr ∧ Hid (ne = nodeErrs (f.kids.drop k))) (fun i _ => f.kids.length - (intOf i).toNat)
    case atStart => exact ⟨0, Nat.zero_le _, rfl, Below.refl _ _, HF⟩
    case round =>
      obtain ⟨k, hk9, rfl, hbr, hinv⟩ := hrel
      have hb := hbX.trans (hbr.mono hbX.size)
      replace b4 := cell_later hbr b4
      by_cases hlt : k < f.kids.length
      · obtain ⟨g, off, Ap', cp', Ak', ck', hA, hg, c0, c1, c2, c3, c4, hd, hkid⟩ := FltsV.kid2 (FltsV.keep hk hb) hlt
        subst hA
        have hltI : (k : Int) < (f.kids.length : Int) := by omega
        have HT := Lib.hid (nodeErrs_step hlt)
        have hcall := ih (d - 1) (by omega) _ f.kids[k] wr (FltV.mono hkid hb.size) (hks.mem (List.getElem_mem hlt))
        clear hkid ih hk
        generalize nodeErr f.kids[k] = q at *
        by_cases hq : q = 0
        · have hI : (q != 0) = false := by simpa using hq
          have HV : Hid (ne = nodeErrs (f.kids.drop (k + 1))) := by show _ = _; rw [hinv.out, HT.out, hI]; rfl
          clear hinv HT hq
          go_wp2_with fail
          refine hcall.mono ?_
          rintro e w6 ⟨rfl, hb6⟩
          clear hcall c0 c1 c2 c3 c4
          go_wp2_with fail
          go_roundw
          case rel => exact ⟨k + 1, by omega, by go_num, hbr.trans (hb6.mono hbr.size), HV⟩
          case measure => simp [intOf]; omega
        · have hI : (q != 0) = true := by simpa using hq
          have HV : Hid (ne = q) := by show _ = _; rw [hinv.out, HT.out, hI]; rfl
          clear hinv HT hq
          go_wp2_with fail
          refine hcall.mono ?_
          rintro e w6 ⟨rfl, hb6⟩
          clear hcall c0 c1 c2 c3 c4
          go_wp2_with fail
          go_ret
          exact ⟨ret_int HV.out.symm, hb.trans (hb6.mono hb.size)⟩
      · have hltI : ¬ (k : Int) < (f.kids.length : Int) := by omega
        have HV : Hid (ne = 0) := by show _ = _; rw [hinv.out, List.drop_eq_nil_of_le (by omega)]; rfl
        clear hinv ih hk
        go_wp2_with fail
        go_ret
        exact ⟨ret_int HV.out.symm, hb⟩
  cases r2
  · have HF : Hid (ne = 5) := by show _ = _; rw [HE.out, HO.out]; rfl
    clear HE HO HR4 kL kP ih hk hp
    go_wp2_with fail
    refine (kC w1).mono ?_
    rintro e wd ⟨rfl, rfl⟩
    clear kC
    go_wp2_with fail
    refine (kN w1).mono ?_
    rintro e wd ⟨rfl, rfl⟩
    clear kN
    go_wp2_with fail
    go_ret
    exact ⟨ret_int HF.out.symm, hbX⟩
  by_cases h6 : f.kind ≤ 6
  · have HD := Lib.hid (decide_eq_true h6)
    cases r3
    · have HF : Hid (ne = 8) := by show _ = _; rw [HE.out, HO.out, HD.out]; rfl
      clear HE HO HD HR4 kP ih hk hp
      go_wp2_with fail
      refine (kC w1).mono ?_
      rintro e wd ⟨rfl, rfl⟩
      clear kC
      go_wp2_with fail
      refine (kN w1).mono ?_
      rintro e wd ⟨rfl, rfl⟩
      clear kN
      go_wp2_with fail
      refine (kL w1).mono ?_
      rintro e wd ⟨rfl, rfl⟩
      clear kL
      go_wp2_with fail
      go_ret
      exact ⟨ret_int HF.out.symm, hbX⟩
    have HE8 : Hid (r4 = true → ne = 8) := fun h => by rw [HE.out, HO.out, HD.out, h]; rfl
    have HE0 : Hid (r4 = false → ne = nodeErrs f.kids) := fun h => by rw [HE.out, HO.out, HD.out, h]; rfl
    clear HE HO HD
    go_wp2_with fail
    refine (kC w1).mono ?_
    rintro e wd ⟨rfl, rfl⟩
    clear kC
    go_wp2_with fail
    refine (kN w1).mono ?_
    rintro e wd ⟨rfl, rfl⟩
    clear kN
    go_wp2_with fail
    refine (kL w1).mono ?_
    rintro e wd ⟨rfl, rfl⟩
    clear kL
    have hps := SlV.keep hp hbX
    go_wp2_with fail
    go_loop [3] (fun i => ∃ j : Nat, j ≤ f.parts.length ∧ i = .int .i64 (j : Int) ∧ Hid (r4 = (f.parts.drop j).any fun s => !prtF s)) (fun i => f.parts.length - (intOf i).toNat)
    case atStart => exact ⟨0, Nat.zero_le _, rfl, HR4.out⟩
    case round =>
      obtain ⟨j, hj9, rfl, hpi⟩ := hrel
      by_cases hjl : j < f.parts.length
      · obtain ⟨g, off, hA, hgl, c0⟩ := StrsV.cell hps hjl
        subst hA
        have hjI : (j : Int) < (f.parts.length : Int) := by omega
        have hPr := kP f.parts[j] (List.getElem_mem hjl) w1
        have hst := all_drop (p := fun s => !prtF s) hjl
        have HS := Lib.hid hst
        generalize prtF f.parts[j] = pj at *
        clear hst
        cases pj
        · have HF : Hid (ne = 8) := by show _ = _; rw [HE8.out (by rw [hpi.out, HS.out]; rfl)]
          clear hpi HS ih hk hps hp kP
          go_wp2_with fail
          refine hPr.mono ?_
          rintro e wd ⟨rfl, rfl⟩
          go_wp2_with fail
          go_ret
          exact ⟨ret_int HF.out.symm, hbX⟩
        · have HV : Hid (r4 = (f.parts.drop (j + 1)).any fun s => !prtF s) := by show _ = _; rw [hpi.out, HS.out]; rfl
          clear hpi HS
          go_wp2_with fail
          refine hPr.mono ?_
          rintro e wd ⟨rfl, rfl⟩
          clear hPr
          go_wp2_with fail
          go_round
          case rel => exact ⟨j + 1, by omega, by go_num, HV⟩
          case measure => simp [intOf]; omega
      · have hjI : ¬ (j : Int) < (f.parts.length : Int) := by omega
        have HF : Hid (ne = nodeErrs (f.kids.drop 0)) := by
          show _ = _
          rw [HE0.out (by rw [hpi.out, List.drop_eq_nil_of_le (by omega)]; rfl)]; rfl
        clear hpi hps hp kP HE0 HE8 HR4
        go_wp2_with fail
        clear b0 b1 b2 b3
        go_loopw [4] (fun i wr => ∃ k : Nat, k ≤ f.kids.length ∧ i = .int .i64 (k : Int) ∧ Below w1.heap.size w1 wr ∧ Hid (ne = nodeErrs (f.kids.drop k))) (fun i _ => f.kids.length - (intOf i).toNat)
        case atStart => exact ⟨0, Nat.zero_le _, rfl, Below.refl _ _, HF⟩
        case round =>
          obtain ⟨k, hk9, rfl, hbr, hinv⟩ := hrel
          have hb := hbX.trans (hbr.mono hbX.size)
          replace b4 := cell_later hbr b4
          by_cases hlt : k < f.kids.length
          · obtain ⟨g, off, Ap', cp', Ak', ck', hA, hg, c0, c1, c2, c3, c4, hd, hkid⟩ := FltsV.kid2 (FltsV.keep hk hb) hlt
            subst hA
            have hltI : (k : Int) < (f.kids.length : Int) := by omega
            have HT := Lib.hid (nodeErrs_step hlt)
            have hcall := ih (d - 1) (by omega) _ f.kids[k] wr (FltV.mono hkid hb.size) (hks.mem (List.getElem_mem hlt))
            clear hkid ih hk
            generalize nodeErr f.kids[k] = q at *
            by_cases hq : q = 0
            · have hI : (q != 0) = false := by simpa using hq
              have HV : Hid (ne = nodeErrs (f.kids.drop (k + 1))) := by show _ = _; rw [hinv.out, HT.out, hI]; rfl
              clear hinv HT hq
              go_wp2_with fail
              refine hcall.mono ?_
              rintro e w6 ⟨rfl, hb6⟩
              clear hcall c0 c1 c2 c3 c4
              go_wp2_with fail
              go_roundw
              case rel => exact ⟨k + 1, by omega, by go_num, hbr.trans (hb6.mono hbr.size), HV⟩
              case measure => simp [intOf]; omega
            · have hI : (q != 0) = true := by simpa using hq
              have HV : Hid (ne = q) := by show _ = _; rw [hinv.out, HT.out, hI]; rfl
              clear hinv HT hq
              go_wp2_with fail
              refine hcall.mono ?_
              rintro e w6 ⟨rfl, hb6⟩
              clear hcall c0 c1 c2 c3 c4
              go_wp2_with fail
              go_ret
              exact ⟨ret_int HV.out.symm, hb.trans (hb6.mono hb.size)⟩
          · have hltI : ¬ (k : Int) < (f.kids.length : Int) := by omega
            have HV : Hid (ne = 0) := by show _ = _; rw [hinv.out, List.drop_eq_nil_of_le (by omega)]; rfl
            clear hinv ih hk
            go_wp2_with fail
            go_ret
            exact ⟨ret_int HV.out.symm, hb⟩
  have HD := Lib.hid (decide_eq_false h6)
  have HE8 : Hid (r4 = true → ne = 8) := fun h => by rw [HE.out, HO.out, HD.out, h]; rfl
  have HE0 : Hid (r4 = false → ne = nodeErrs f.kids) := fun h => by rw [HE.out, HO.out, HD.out, h]; rfl
  clear HE HO HD kL
  go_wp2_with fail
  refine (kC w1).mono ?_
  rintro e wd ⟨rfl, rfl⟩
  clear kC
  go_wp2_with fail
  refine (kN w1).mono ?_
  rintro e wd ⟨rfl, rfl⟩
  clear kN
  have hps := SlV.keep hp hbX
  go_wp2_with fail
  go_loop [3] (fun i => ∃ j : Nat, j ≤ f.parts.length ∧ i = .int .i64 (j : Int) ∧ Hid (r4 = (f.parts.drop j).any fun s => !prtF s)) (fun i => f.parts.length - (intOf i).toNat)
  case atStart => exact ⟨0, Nat.zero_le _, rfl, HR4.out⟩
  case round =>
    obtain ⟨j, hj9, rfl, hpi⟩ := hrel
    by_cases hjl : j < f.parts.length
    · obtain ⟨g, off, hA, hgl, c0⟩ := StrsV.cell hps hjl
      subst hA
      have hjI : (j : Int) < (f.parts.length : Int) := by omega
      have hPr := kP f.parts[j] (List.getElem_mem hjl) w1
      have hst := all_drop (p := fun s => !prtF s) hjl
      have HS := Lib.hid hst
      generalize prtF f.parts[j] = pj at *
      clear hst
      cases pj
      · have HF : Hid (ne = 8) := by show _ = _; rw [HE8.out (by rw [hpi.out, HS.out]; rfl)]
        clear hpi HS ih hk hps hp kP
        go_wp2_with fail
        refine hPr.mono ?_
        rintro e wd ⟨rfl, rfl⟩
        go_wp2_with fail
        go_ret
        exact ⟨ret_int HF.out.symm, hbX⟩
      · have HV : Hid (r4 = (f.parts.drop (j + 1)).any fun s => !prtF s) := by show _ = _; rw [hpi.out, HS.out]; rfl
        clear hpi HS
        go_wp2_with fail
        refine hPr.mono ?_
        rintro e wd ⟨rfl, rfl⟩
        clear hPr
        go_wp2_with fail
        go_round
        case rel => exact ⟨j + 1, by omega, by go_num, HV⟩
        case measure => simp [intOf]; omega
    · have hjI : ¬ (j : Int) < (f.parts.length : Int) := by omega
      have HF : Hid (ne = nodeErrs (f.kids.drop 0)) := by
        show _ = _
        rw [HE0.out (by rw [hpi.out, List.drop_eq_nil_of_le (by omega)]; rfl)]; rfl
      clear hpi hps hp kP HE0 HE8 HR4
      go_wp2_with fail
      clear b0 b1 b2 b3
      go_loopw [4] (fun i wr => ∃ k : Nat, k ≤ f.kids.length ∧ i = .int .i64 (k : Int) ∧ Below w1.heap.size w1 wr ∧ Hid (ne = nodeErrs (f.kids.drop k))) (fun i _ => f.kids.length - (intOf i).toNat)
      case atStart => exact ⟨0, Nat.zero_le _, rfl, Below.refl _ _, HF⟩
      case round =>
        obtain ⟨k, hk9, rfl, hbr, hinv⟩ := hrel
        have hb := hbX.trans (hbr.mono hbX.size)
        replace b4 := cell_later hbr b4
        by_cases hlt : k < f.kids.length
        · obtain ⟨g, off, Ap', cp', Ak', ck', hA, hg, c0, c1, c2, c3, c4, hd, hkid⟩ := FltsV.kid2 (FltsV.keep hk hb) hlt
          subst hA
          have hltI : (k : Int) < (f.kids.length : Int) := by omega
          have HT := Lib.hid (nodeErrs_step hlt)
          have hcall := ih (d - 1) (by omega) _ f.kids[k] wr (FltV.mono hkid hb.size) (hks.mem (List.getElem_mem hlt))
          clear hkid ih hk
          generalize nodeErr f.kids[k] = q at *
          by_cases hq : q = 0
          · have hI : (q != 0) = false := by simpa using hq
            have HV : Hid (ne = nodeErrs (f.kids.drop (k + 1))) := by show _ = _; rw [hinv.out, HT.out, hI]; rfl
            clear hinv HT hq
            go_wp2_with fail
            refine hcall.mono ?_
            rintro e w6 ⟨rfl, hb6⟩
            clear hcall c0 c1 c2 c3 c4
            go_wp2_with fail
            go_roundw
            case rel => exact ⟨k + 1, by omega, by go_num, hbr.trans (hb6.mono hbr.size), HV⟩
            case measure => simp [intOf]; omega
          · have hI : (q != 0) = true := by simpa using hq
            have HV : Hid (ne = q) := by show _ = _; rw [hinv.out, HT.out, hI]; rfl
            clear hinv HT hq
            go_wp2_with fail
            refine hcall.mono ?_
            rintro e w6 ⟨rfl, hb6⟩
            clear hcall c0 c1 c2 c3 c4
            go_wp2_with fail
            go_ret
            exact ⟨ret_int HV.out.symm, hb.trans (hb6.mono hb.size)⟩
        · have hltI : ¬ (k : Int) < (f.kids.length : Int) := by omega
          have HV : Hid (ne = 0) := by show _ = _; rw [hinv.out, List.drop_eq_nil_of_le (by omega)]; rfl
          clear hinv ih hk
          go_wp2_with fail
          go_ret
          exact ⟨ret_int HV.out.symm, hb⟩
set_option maxRecDepth 100000 in
theorem r9_Check_any (d : Nat) (v : Value) (f : Flt) (w : World) (hv : FltV w w.heap.size d v f) (hs : FSm 1000 f) :
    Calls Tryz.prog 13 #[v] w fun e w' => e = .returned (.int .i64 (fCheck f)) ∧ Below w.heap.size w w' := by
  obtain ⟨Ap, cp, Ak, ck, rfl, hp, hk⟩ := hv.shape
  have k1 := fun W (hW : Below w.heap.size w W) => r9_Nodes_any d _ f W (hv.on hW) hs
  have k2 := fun W (hW : Below w.heap.size w W) => r9_level_any d _ f W (hv.on hW) hs
  have k3 := fun W (hW : Below w.heap.size w W) => r9_node_any d _ f W (hv.on hW) hs
  have HC : Hid (fCheck f = if 64 < fSize f ∨ 8 < fDep f then 3 else nodeErr f) := rfl
  obtain ⟨q, hq⟩ : ∃ q : Nat, q = min (fSize f) 65 := ⟨_, rfl⟩
  rw [← hq] at k1
  have h64 : 64 < q ↔ 64 < fSize f := by omega
  generalize fCheck f = R at *
  generalize fDep f = dp at *
  generalize nodeErr f = ne at *
  clear hp hk hv
  go_enter Tryz.func13, Tryz.ntmps13
  go_upto_region 1 with fail
  with_reducible refine gen1 (R := fun W => Code.wp Tryz.prog _ _ _ W) ?_
  intro W hbW hszW hc _
  have b0 : W.cell? ⟨w.heap.size, 0, none⟩ = some (.int .i64 f.kind) := hc 0 _ rfl
  have b1 : W.cell? ⟨w.heap.size, 1, none⟩ = some (.string (B f.name)) := hc 1 _ rfl
  have b2 : W.cell? ⟨w.heap.size, 2, none⟩ = some (.string (B f.value)) := hc 2 _ rfl
  have b3 : W.cell? ⟨w.heap.size, 3, none⟩ = some (.slice Ap f.parts.length cp) := hc 3 _ rfl
  have b4 : W.cell? ⟨w.heap.size, 4, none⟩ = some (.slice Ak f.kids.length ck) := hc 4 _ rfl
  clear hc hszW
  go_wp2_with fail
  refine (k1 W hbW).mono ?_
  rintro e w1 ⟨rfl, hb1⟩
  replace b0 := cell_later hb1 b0
  replace b1 := cell_later hb1 b1
  replace b2 := cell_later hb1 b2
  replace b3 := cell_later hb1 b3
  replace b4 := cell_later hb1 b4
  have hbw1 := hbW.trans (hb1.mono hbW.size)
  clear k1 hb1 hbW
  by_cases hq6 : 64 < q
  · have hI : (64 : Int) < (q : Int) := by omega
    have HF : Hid (R = 3) := by show _ = _; rw [HC.out, if_pos (.inl (h64.1 hq6))]
    clear HC hq h64 hq6 k2 k3
    go_wp2_with fail
    go_ret
    exact ⟨ret_int HF.out.symm, hbw1⟩
  have hI : ¬ (64 : Int) < (q : Int) := by omega
  have HF0 : Hid (R = if 8 < dp then 3 else ne) := by
    show _ = _; rw [HC.out]
    by_cases h8 : 8 < dp
    · rw [if_pos (.inr h8), if_pos h8]
    · rw [if_neg (fun h => h.elim (fun h => hq6 (h64.2 h)) h8), if_neg h8]
  clear HC hq h64 hq6
  go_wp2_with fail
  refine (k2 w1 hbw1).mono ?_
  rintro e w2 ⟨rfl, hb2⟩
  replace b0 := cell_later hb2 b0
  replace b1 := cell_later hb2 b1
  replace b2 := cell_later hb2 b2
  replace b3 := cell_later hb2 b3
  replace b4 := cell_later hb2 b4
  have hbw2 := hbw1.trans (hb2.mono hbw1.size)
  clear k2 hb2 hbw1
  by_cases h8 : 8 < dp
  · have hJ : (8 : Int) < (dp : Int) := by omega
    have HF : Hid (R = 3) := by show _ = _; rw [HF0.out, if_pos h8]
    clear HF0 h8 k3
    go_wp2_with fail
    go_ret
    exact ⟨ret_int HF.out.symm, hbw2⟩
  · have hJ : ¬ (8 : Int) < (dp : Int) := by omega
    have HF : Hid (R = ne) := by show _ = _; rw [HF0.out, if_neg h8]
    clear HF0 h8
    go_wp2_with fail
    refine (k3 w2 hbw2).mono ?_
    rintro e w3 ⟨rfl, hb3⟩
    go_wp2_with fail
    go_ret
    exact ⟨ret_int HF.out.symm, hbw2.trans (hb3.mono hbw2.size)⟩
end Go.Proofs.YtmamnmjfbadiiaaGreatDoor
/- identityref02.Same, identityref09.Equal. -/
namespace Go.Proofs.YtmamnmjfbadiiaaGreatDoor
open Go.RowKit Go.Sort
open Idn (L B Bs drop_L take_L size_L)
set_option maxHeartbeats 1000000 in
set_option maxRecDepth 100000 in
theorem r2_same_any (v u : Value) (a b : List Bs) (r : Bool) (hr : r = true ↔ a = b) (w : World) (hv : StrsV w w.heap.size v a) (hu : StrsV w w.heap.size u b) (ha : a.length ≤ 1000000000) (hb : b.length ≤ 1000000000) :
    Calls Tryz.prog 24 #[v, u] w fun e w' => e = .returned (.bool r) ∧ Below w.heap.size w w' := by
  obtain ⟨A, c, rfl, _⟩ := SlV.shape hv
  obtain ⟨A2, c2, rfl, _⟩ := SlV.shape hu
  go_enter Tryz.func24, Tryz.ntmps24
  by_cases h0 : a.length = b.length
  · have h0I : ((a.length : Int) != (b.length : Int)) = false := by rw [h0]; simp
    have H0 := Lib.hid h0
    have HRR := Lib.hid hr
    clear h0 hr
    go_wp2_with fail
    go_loopw [5] (fun i wr => ∃ (k : Nat), k ≤ a.length ∧ i = .int .i64 k ∧ Below w.heap.size w wr ∧ Hid (a.take k = b.take k)) (fun i _ => a.length - (intOf i).toNat)
    case atStart => exact ⟨0, Nat.zero_le _, rfl, Below.refl _ _, rfl⟩
    case round =>
      obtain ⟨k, hk, rfl, hbw, hinv⟩ := hrel
      by_cases hlt : k < a.length
      · have hlt' : k < b.length := by have := H0.out; omega
        obtain ⟨b1, o1, hA, hb1, d0⟩ := StrsV.cell (SlV.keep hv hbw) hlt
        obtain ⟨b2, o2, hA2, hb2, e0⟩ := StrsV.cell (SlV.keep hu hbw) hlt'
        subst hA hA2
        have hltI : (k : Int) < (a.length : Int) := by omega
        have hltJ : (k : Int) < (b.length : Int) := by omega
        have ht := B_beq a[k] b[k]
        by_cases he : a[k] = b[k]
        · have HF := Lib.hid (take_ext hinv.out hlt hlt' he)
          rw [decide_eq_true he] at ht
          clear hinv he
          generalize B a[k] = x at *
          generalize B b[k] = y at *
          go_wp2
          go_quiet (fail)
          go_wp2
          go_roundw
          case rel => exact ⟨k + 1, by omega, by go_num, below_drewN hbw _, HF⟩
          case measure => simp [intOf]; omega
        · have HF := Lib.hid (no_true HRR.out (get_ne hlt hlt' he))
          rw [decide_eq_false he] at ht
          clear hinv he
          generalize B a[k] = x at *
          generalize B b[k] = y at *
          go_wp2
          go_quiet (fail)
          go_wp2
          go_ret
          exact ⟨ret_bool HF.out.symm, below_drewN hbw _⟩
      · have hltI : ¬ (k : Int) < (a.length : Int) := by omega
        have hltJ : ¬ (k : Int) < (b.length : Int) := by have := H0.out; omega
        have HF : Hid (r = true) := HRR.out.2 (by
          have h1 := hinv.out
          have h2 := H0.out
          rwa [List.take_of_length_le (by omega), List.take_of_length_le (by omega)] at h1)
        clear hinv
        go_wp2
        go_ret
        exact ⟨ret_bool HF.out.symm, hbw⟩
  · have h0I : ((a.length : Int) != (b.length : Int)) = true := by rw [bne_iff_ne]; omega
    have HF := Lib.hid (no_true hr fun h => h0 (by rw [h]))
    go_wp2_with fail
    go_ret
    exact ⟨ret_bool HF.out.symm, Below.refl _ _⟩
set_option maxHeartbeats 4000000 in
set_option maxRecDepth 100000 in
theorem r9_Equal_any : ∀ (d d' : Nat) (v u : Value) (f g : Flt) (r : Bool) (w : World), FltV w w.heap.size d v f → FltV w w.heap.size d' u g → FSm 1000 f → FSm 1000 g → (r = true ↔ f = g) →
    Calls Tryz.prog 19 #[v, u] w fun e w' => e = .returned (.bool r) ∧ Below w.heap.size w w' := by
  intro d
  induction d using Nat.strongRecOn with
  | _ d ih =>
  intro d' v u f g r w hv hu hs ht hr
  obtain ⟨Ap, cp, Ak, ck, rfl, hp, hk⟩ := hv.shape
  obtain ⟨Aq, cq', Al, cl, rfl, hq, hl⟩ := hu.shape
  have o3 := (fOk_own hs.2).2.2.1
  have q3 := (fOk_own ht.2).2.2.1
  have hkl := hs.kids.len
  have hll := ht.kids.len
  obtain ⟨pb, hpb⟩ := bool_of (f.parts = g.parts)
  have hE1 := fun W (hW : Below w.heap.size w W) => r2_same_any _ _ f.parts g.parts pb hpb W (SlV.mono (SlV.keep hp hW) hW.size) (SlV.mono (SlV.keep hq hW) hW.size) (by omega) (by omega)
  have kK := fun (W' : World) (a b : Value) (x y : Flt) (r' : Bool) (hx : x ∈ f.kids) (hy : y ∈ g.kids) (h0 : 0 < d) (h1 : FltV W' W'.heap.size (d - 1) a x) (h2 : FltV W' W'.heap.size (d' - 1) b y) (h3 : r' = true ↔ x = y) => ih (d - 1) (by omega) (d' - 1) a b x y r' W' h1 h2 (hs.kids.mem hx) (ht.kids.mem hy) h3
  have HR : Hid (r = true ↔ f.kind = g.kind ∧ f.name = g.name ∧ f.value = g.value ∧ f.parts = g.parts ∧ f.kids = g.kids) := hr.trans flt_ext
  clear ih hp hq hv hu hr o3 q3 hs ht
  have HPB := Lib.hid hpb
  clear hpb
  generalize f.kind = fk at *
  generalize g.kind = gk at *
  generalize f.name = fn at *
  generalize g.name = gn at *
  generalize f.value = fv at *
  generalize g.value = gv at *
  by_cases h1 : fk = gk
  case neg =>
    have t1 : (fk == gk) = false := beq_eq_false_iff_ne.2 h1
    have t1' : (fk != gk) = true := by rw [bne, t1]; rfl
    have HF := Lib.hid (no_true HR.out fun h => h1 h.1)
    clear h1
    clear HR hE1 kK hk hl
    go_enter Tryz.func19, Tryz.ntmps19
    go_upto_region 1 with fail
    with_reducible refine gen2 (R := fun W => Code.wp Tryz.prog _ _ _ W) ?_
    intro W hbW hszW hc1 hc2
    have x0 : W.cell? ⟨w.heap.size, 0, none⟩ = some (.int .i64 fk) := hc1 0 _ rfl
    have x1 : W.cell? ⟨w.heap.size, 1, none⟩ = some (.string (B fn)) := hc1 1 _ rfl
    have x2 : W.cell? ⟨w.heap.size, 2, none⟩ = some (.string (B fv)) := hc1 2 _ rfl
    have x3 : W.cell? ⟨w.heap.size, 3, none⟩ = some (.slice Ap f.parts.length cp) := hc1 3 _ rfl
    have x4 : W.cell? ⟨w.heap.size, 4, none⟩ = some (.slice Ak f.kids.length ck) := hc1 4 _ rfl
    have y0 : W.cell? ⟨w.heap.size + 1, 0, none⟩ = some (.int .i64 gk) := hc2 0 _ rfl
    have y1 : W.cell? ⟨w.heap.size + 1, 1, none⟩ = some (.string (B gn)) := hc2 1 _ rfl
    have y2 : W.cell? ⟨w.heap.size + 1, 2, none⟩ = some (.string (B gv)) := hc2 2 _ rfl
    have y3 : W.cell? ⟨w.heap.size + 1, 3, none⟩ = some (.slice Aq g.parts.length cq') := hc2 3 _ rfl
    have y4 : W.cell? ⟨w.heap.size + 1, 4, none⟩ = some (.slice Al g.kids.length cl) := hc2 4 _ rfl
    clear hc1 hc2 hszW
    go_wp2_with fail
    go_ret
    exact ⟨ret_bool HF.out.symm, hbW⟩
  subst h1
  by_cases h2 : fn = gn
  case neg =>
    have t2 := b_ne h2
    have HF := Lib.hid (no_true HR.out fun h => h2 h.2.1)
    clear h2
    clear HR hE1 kK hk hl
    go_enter Tryz.func19, Tryz.ntmps19
    go_upto_region 1 with fail
    with_reducible refine gen2 (R := fun W => Code.wp Tryz.prog _ _ _ W) ?_
    intro W hbW hszW hc1 hc2
    have x0 : W.cell? ⟨w.heap.size, 0, none⟩ = some (.int .i64 fk) := hc1 0 _ rfl
    have x1 : W.cell? ⟨w.heap.size, 1, none⟩ = some (.string (B fn)) := hc1 1 _ rfl
    have x2 : W.cell? ⟨w.heap.size, 2, none⟩ = some (.string (B fv)) := hc1 2 _ rfl
    have x3 : W.cell? ⟨w.heap.size, 3, none⟩ = some (.slice Ap f.parts.length cp) := hc1 3 _ rfl
    have x4 : W.cell? ⟨w.heap.size, 4, none⟩ = some (.slice Ak f.kids.length ck) := hc1 4 _ rfl
    have y0 : W.cell? ⟨w.heap.size + 1, 0, none⟩ = some (.int .i64 fk) := hc2 0 _ rfl
    have y1 : W.cell? ⟨w.heap.size + 1, 1, none⟩ = some (.string (B gn)) := hc2 1 _ rfl
    have y2 : W.cell? ⟨w.heap.size + 1, 2, none⟩ = some (.string (B gv)) := hc2 2 _ rfl
    have y3 : W.cell? ⟨w.heap.size + 1, 3, none⟩ = some (.slice Aq g.parts.length cq') := hc2 3 _ rfl
    have y4 : W.cell? ⟨w.heap.size + 1, 4, none⟩ = some (.slice Al g.kids.length cl) := hc2 4 _ rfl
    clear hc1 hc2 hszW
    go_wp2_with fail
    go_ret
    exact ⟨ret_bool HF.out.symm, hbW⟩
  subst h2
  by_cases h3 : fv = gv
  case neg =>
    have t3 := b_ne h3
    have HF := Lib.hid (no_true HR.out fun h => h3 h.2.2.1)
    clear h3
    clear HR hE1 kK hk hl
    go_enter Tryz.func19, Tryz.ntmps19
    go_upto_region 1 with fail
    with_reducible refine gen2 (R := fun W => Code.wp Tryz.prog _ _ _ W) ?_
    intro W hbW hszW hc1 hc2
    have x0 : W.cell? ⟨w.heap.size, 0, none⟩ = some (.int .i64 fk) := hc1 0 _ rfl
    have x1 : W.cell? ⟨w.heap.size, 1, none⟩ = some (.string (B fn)) := hc1 1 _ rfl
    have x2 : W.cell? ⟨w.heap.size, 2, none⟩ = some (.string (B fv)) := hc1 2 _ rfl
    have x3 : W.cell? ⟨w.heap.size, 3, none⟩ = some (.slice Ap f.parts.length cp) := hc1 3 _ rfl
    have x4 : W.cell? ⟨w.heap.size, 4, none⟩ = some (.slice Ak f.kids.length ck) := hc1 4 _ rfl
    have y0 : W.cell? ⟨w.heap.size + 1, 0, none⟩ = some (.int .i64 fk) := hc2 0 _ rfl
    have y1 : W.cell? ⟨w.heap.size + 1, 1, none⟩ = some (.string (B fn)) := hc2 1 _ rfl
    have y2 : W.cell? ⟨w.heap.size + 1, 2, none⟩ = some (.string (B gv)) := hc2 2 _ rfl
    have y3 : W.cell? ⟨w.heap.size + 1, 3, none⟩ = some (.slice Aq g.parts.length cq') := hc2 3 _ rfl
    have y4 : W.cell? ⟨w.heap.size + 1, 4, none⟩ = some (.slice Al g.kids.length cl) := hc2 4 _ rfl
    clear hc1 hc2 hszW
    go_wp2_with fail
    go_ret
    exact ⟨ret_bool HF.out.symm, hbW⟩
  subst h3
  go_enter Tryz.func19, Tryz.ntmps19
  go_upto_region 1 with fail
  with_reducible refine gen2 (R := fun W => Code.wp Tryz.prog _ _ _ W) ?_
  intro W hbW hszW hc1 hc2
  have x0 : W.cell? ⟨w.heap.size, 0, none⟩ = some (.int .i64 fk) := hc1 0 _ rfl
  have x1 : W.cell? ⟨w.heap.size, 1, none⟩ = some (.string (B fn)) := hc1 1 _ rfl
  have x2 : W.cell? ⟨w.heap.size, 2, none⟩ = some (.string (B fv)) := hc1 2 _ rfl
  have x3 : W.cell? ⟨w.heap.size, 3, none⟩ = some (.slice Ap f.parts.length cp) := hc1 3 _ rfl
  have x4 : W.cell? ⟨w.heap.size, 4, none⟩ = some (.slice Ak f.kids.length ck) := hc1 4 _ rfl
  have y0 : W.cell? ⟨w.heap.size + 1, 0, none⟩ = some (.int .i64 fk) := hc2 0 _ rfl
  have y1 : W.cell? ⟨w.heap.size + 1, 1, none⟩ = some (.string (B fn)) := hc2 1 _ rfl
  have y2 : W.cell? ⟨w.heap.size + 1, 2, none⟩ = some (.string (B fv)) := hc2 2 _ rfl
  have y3 : W.cell? ⟨w.heap.size + 1, 3, none⟩ = some (.slice Aq g.parts.length cq') := hc2 3 _ rfl
  have y4 : W.cell? ⟨w.heap.size + 1, 4, none⟩ = some (.slice Al g.kids.length cl) := hc2 4 _ rfl
  clear hc1 hc2 hszW
  go_wp2_with fail
  refine (hE1 W hbW).mono ?_
  rintro e w1 ⟨rfl, hb1⟩
  replace x4 := cell_later hb1 x4
  replace y4 := cell_later hb1 y4
  have hb := hbW.trans (hb1.mono hbW.size)
  clear hE1 hb1 hbW x0 x1 x2 x3 y0 y1 y2 y3
  cases pb
  · have HF := Lib.hid (no_true HR.out fun h => by have := HPB.out.2 h.2.2.2.1; cases this)
    clear HR HPB kK hk hl
    go_wp2_with fail
    go_ret
    exact ⟨ret_bool HF.out.symm, hb⟩
  have hpe : f.parts = g.parts := HPB.out.1 rfl
  by_cases h5 : f.kids.length = g.kids.length
  case neg =>
    have hI : ((f.kids.length : Int) == (g.kids.length : Int)) = false := by rw [beq_eq_false_iff_ne]; omega
    have hI' : ((f.kids.length : Int) != (g.kids.length : Int)) = true := by rw [bne, hI]; rfl
    have HF := Lib.hid (no_true HR.out fun h => h5 (by rw [h.2.2.2.2]))
    clear HR HPB kK hk hl h5 hpe
    go_wp2_with fail
    go_ret
    exact ⟨ret_bool HF.out.symm, hb⟩
  have hI : ((f.kids.length : Int) == (g.kids.length : Int)) = true := by rw [beq_iff_eq]; omega
  have hI' : ((f.kids.length : Int) != (g.kids.length : Int)) = false := by rw [bne, hI]; rfl
  have H5 := Lib.hid h5
  have HR2 : Hid (r = true ↔ f.kids = g.kids) := HR.out.trans ⟨fun h => h.2.2.2.2, fun h => ⟨by first | rfl | trivial, by first | rfl | trivial, by first | rfl | trivial, hpe, h⟩⟩
  clear HR HPB h5 hpe
  go_wp2_with fail
  clear hI hI'
  go_loopw [5] (fun i wr => ∃ (k : Nat), k ≤ f.kids.length ∧ i = .int .i64 (k : Int) ∧ Below w1.heap.size w1 wr ∧ Hid (f.kids.take k = g.kids.take k)) (fun i _ => f.kids.length - (intOf i).toNat)
  case atStart => exact ⟨0, Nat.zero_le _, rfl, Below.refl _ _, rfl⟩
  case round =>
    obtain ⟨k, hk9, rfl, hbr, hinv⟩ := hrel
    obtain ⟨wo, hwo⟩ : ∃ wo : World, wo = wr := ⟨_, rfl⟩
    subst hwo
    have hbo := hb.trans (hbr.mono hb.size)
    replace x4 := cell_later hbr x4
    replace y4 := cell_later hbr y4
    by_cases hlt : k < f.kids.length
    · have h0' : k < g.kids.length := by have := H5.out; omega
      obtain ⟨b1, o1, Ap1, cp1, Ak1, ck1, hA, hb1, d0, d1, d2, d3, d4, hd, hk1⟩ := FltsV.kid2 (FltsV.keep hk hbo) hlt
      obtain ⟨b2, o2, Ap2, cp2, Ak2, ck2, hA2, hb2, e0, e1, e2, e3, e4, hd', hk2⟩ := FltsV.kid2 (FltsV.keep hl hbo) h0'
      subst hA hA2
      have hltI : (k : Int) < (f.kids.length : Int) := by omega
      have hltJ : (k : Int) < (g.kids.length : Int) := by omega
      obtain ⟨bb, hbb⟩ := bool_of (f.kids[k] = g.kids[k]'h0')
      have hC := fun (W : World) (hW : Below wo.heap.size wo W) => kK W _ _ f.kids[k] (g.kids[k]'h0') bb (List.getElem_mem _) (List.getElem_mem _) hd (FltV.on (FltV.mono hk1 hbo.size) hW) (FltV.on (FltV.mono hk2 hbo.size) hW) hbb
      have hfl : bb = false → f.kids ≠ g.kids := fun h e => by
        have : f.kids[k] = g.kids[k]'h0' := by simp [e]
        rw [hbb.2 this] at h; cases h
      have htr : bb = true → Hid (f.kids.take (k + 1) = g.kids.take (k + 1)) := fun h => by
        show _ = _
        rw [List.take_succ_eq_append_getElem hlt, List.take_succ_eq_append_getElem h0', hinv.out, hbb.1 h]
      have q1 := cq (W := wo) fun V hV => hC V hV
      have i4 := cell_regrown x4
      have j4 := cell_regrown y4
      have i0 := cell_regrown d0
      have i1 := cell_regrown d1
      have i2 := cell_regrown d2
      have i3 := cell_regrown d3
      have i5 := cell_regrown d4
      have j0 := cell_regrown e0
      have j1 := cell_regrown e1
      have j2 := cell_regrown e2
      have j3 := cell_regrown e3
      have j5 := cell_regrown e4
      clear hinv kK hk1 hk2 hbb hC hk hl
      cases bb
      · have HN := Lib.hid (no_true HR2.out (hfl rfl))
        clear hfl htr
        go_wp2_with fail
        refine wp_region_quiet_below (by kernel_rfl) (by kernel_rfl) ?_
        repeat (first | go_big_quiet_step ((go_at_call 19; exact q1 _ _)) | quiet_step ((go_at_call 19; exact q1 _ _)))
        refine wpQuiet_nil ?_
        intro _ hw'
        obtain ⟨⟨dq, osq⟩, hw''⟩ := hw'
        subst hw''
        have hb4 := below_regrown wo dq osq
        generalize grow (redrawn wo dq) osq = W4 at hb4 ⊢
        go_wp2_with fail
        go_ret
        exact ⟨ret_bool HN.out.symm, hbo.trans (hb4.mono hbo.size)⟩
      · have HF := htr rfl
        clear hfl htr
        go_wp2_with fail
        refine wp_region_quiet_below (by kernel_rfl) (by kernel_rfl) ?_
        repeat (first | go_big_quiet_step ((go_at_call 19; exact q1 _ _)) | quiet_step ((go_at_call 19; exact q1 _ _)))
        refine wpQuiet_nil ?_
        intro _ hw'
        obtain ⟨⟨dq, osq⟩, hw''⟩ := hw'
        subst hw''
        have hb4 := below_regrown wo dq osq
        generalize grow (redrawn wo dq) osq = W4 at hb4 ⊢
        go_wp2_with fail
        go_roundw
        case rel => exact ⟨k + 1, by omega, by go_num, hbr.trans (hb4.mono hbr.size), HF⟩
        case measure => simp [intOf]; omega
    · have hltI : ¬ (k : Int) < (f.kids.length : Int) := by omega
      have HF : Hid (r = true) := HR2.out.2 (by
        have h1 := hinv.out
        have h2 := H5.out
        rwa [List.take_of_length_le (by omega), List.take_of_length_le (by omega)] at h1)
      clear hinv
      go_wp2_with fail
      go_ret
      exact ⟨ret_bool HF.out.symm, hbo⟩
end Go.Proofs.YtmamnmjfbadiiaaGreatDoor
