/- Part 41 of the proof that the statements of identitylaw09 on matching hold at all arguments: the package variables hold what the program lays; nothing else is asked. -/
import Derived.Test.YtmamnmjfbadiiaaGreatDoorFz40
set_option linter.unusedVariables false
set_option linter.unusedSimpArgs false
set_option maxRecDepth 100000
set_option maxHeartbeats 16000000
/- filter: clone, simple, Simplify. -/
namespace Go.Proofs.YtmamnmjfbadiiaaGreatDoor
open Go.RowKit Go.Sort
open Idn (L B Bs drop_L take_L size_L)
theorem clone_any : ∀ (d : Nat) (v : Value) (f : Flt) (w : World), FltV w w.heap.size d v f → FSm 1000 f → Calls Tryz.prog 54 #[v] w (RetF w d f) := by
 intro d
 induction d using Nat.strongRecOn with
 | _ d ih =>
 intro v f w hv hs
 obtain ⟨Ap, cp, Ak, ck, rfl, hp, hk⟩ := hv.shape
 have hks := hs.kids
 have hkl := hks.len
 obtain ⟨_, _, o3, _⟩ := fOk_own hs.2
 have kS := fun W (hW : Below w.heap.size w W) => cloneS_any _ f.parts W (SlV.mono (SlV.keep hp hW) hW.size) (by omega)
 clear hp hv
 go_enter Tryz.func54, Tryz.ntmps54
 go_upto_region 1 with fail
 with_reducible refine gen2g (R := fun W => Code.wp Tryz.prog _ _ _ W) ?_
 intro W hbW hszW hc1 hc2 hf1 hf2
 have B1 : Box5 W w.heap.size (.int .i64 f.kind) (.string (B f.name)) (.string (B f.value)) (.slice Ap f.parts.length cp) (.slice Ak f.kids.length ck) := ⟨hc1 0 _ rfl, hc1 1 _ rfl, hc1 2 _ rfl, hc1 3 _ rfl, hc1 4 _ rfl, hf1, by omega⟩
 have B2 : Box5 W (w.heap.size + 1) (.int .i64 0) (.string ⟨#[]⟩) (.string ⟨#[]⟩) (.slice none 0 0) (.slice none 0 0) := ⟨hc2 0 _ rfl, hc2 1 _ rfl, hc2 2 _ rfl, hc2 3 _ rfl, hc2 4 _ rfl, hf2, by omega⟩
 have b3 := B1.c3
 have hsW := Lib.hid hszW
 clear hc1 hc2 hf1 hf2 hszW
 go_wp2_with fail
 refine (kS W hbW).mono ?_
 rintro e w3 ⟨v3, rfl, hown3, hb3⟩
 obtain ⟨A3, c3, hv3⟩ := own_shape hown3
 subst hv3
 replace B1 := B1.later hb3
 replace B2 := B2.later hb3
 have hN3 := StrsN.own (X := fun k => k < w.heap.size + 2) hown3 (fun k _ h => by have := hsW.out; omega)
 have hbw3 := hbW.trans (hb3.mono hbW.size)
 clear b3 kS hown3
 have b3 := B1.c3
 have g3 := B1.fz 3
 go_upto_region 2 with fail
 with_reducible refine gen_put3 (R := fun W => Code.wp Tryz.prog _ _ _ W) B1 ?_
 intro W4 hB4 B1' hs4
 have hbw4 : Below w.heap.size w W4 := hbw3.trans (hB4.below (Nat.le_refl _) hbw3.size)
 have hlo : w.heap.size + 2 ≤ W4.heap.size := by have h1 := hsW.out; have h2 := hb3.size; omega
 replace B2 := B2.but hB4 (by omega)
 replace hN3 := hN3.on (Agr.but hB4 (by omega))
 clear b3 g3 B1 hbW hb3 hbw3 hs4 hsW hB4
 have b4 := B1'.c4
 go_wp2_with fail
 go_loopw [3, 13] (fun u i wr => ∃ k : Nat, k ≤ f.kids.length ∧ i = .int .i64 k ∧ RowF (fun k => k < W4.heap.size) wr W4.heap.size d u (f.kids.take k) ∧ Below W4.heap.size W4 wr) (fun _ i _ => f.kids.length - (intOf i).toNat)
 case atStart => exact ⟨0, Nat.zero_le _, rfl, RowF.nil _ _ _ _, Below.refl _ _⟩
 case round =>
  obtain ⟨k, hk9, rfl, hrow, hbr⟩ := hrel
  have hlk : (f.kids.take k).length = k := by rw [List.length_take]; omega
  obtain ⟨A, c, rfl⟩ := hrow.shapeN hlk
  have hb := hbw4.trans (hbr.mono hbw4.size)
  by_cases hlt : k < f.kids.length
  ·obtain ⟨g, off, Ap', cp', Ak', ck', hA, hg, c0, c1, c2, c3', c4, hd, hkid⟩ := FltsV.kid2 (FltsV.keep hk hb) hlt
   subst hA
   have hltI : (k : Int) < (f.kids.length : Int) := by omega
   have hmem := List.getElem_mem hlt
   clear b4
   go_upto_region 6 with fail
   with_reducible refine gen1 (R := fun W => Code.wp Tryz.prog _ _ _ W) ?_
   intro W5 hbW5 hsz5 hc5 _
   have k0 : W5.cell? ⟨wr.heap.size, 0, none⟩ = some (.int .i64 f.kids[k].kind) := hc5 0 _ rfl
   have k1 : W5.cell? ⟨wr.heap.size, 1, none⟩ = some (.string (B f.kids[k].name)) := hc5 1 _ rfl
   have k2 : W5.cell? ⟨wr.heap.size, 2, none⟩ = some (.string (B f.kids[k].value)) := hc5 2 _ rfl
   have k3 : W5.cell? ⟨wr.heap.size, 3, none⟩ = some (.slice Ap' f.kids[k].parts.length cp') := hc5 3 _ rfl
   have k4 : W5.cell? ⟨wr.heap.size, 4, none⟩ = some (.slice Ak' f.kids[k].kids.length ck') := hc5 4 _ rfl
   have hcall := ih (d - 1) (by omega) _ f.kids[k] W5 (FltV.on (FltV.mono hkid hb.size) hbW5) (hks.mem hmem)
   have hbr5 := hbr.trans (hbW5.mono hbr.size)
   have hrow5 := hrow.on (Agr.later hbW5)
   have hlt5 := fun j hj => (hrow5.lt j hj).2
   have hdd : d - 1 + 1 = d := by omega
   clear hc5 hsz5 hkid c0 c1 c2 c3' c4 hbW5 ih hk hrow hbr hb hd
   go_wp2_with fail
   refine hcall.mono ?_
   rintro e w6 ⟨r6, rfl, hn6, hb6⟩
   obtain ⟨Ap6, cp6, Ak6, ck6, hr6⟩ := hn6.shape
   subst hr6
   obtain ⟨xs, x1, x2, x3, x4, x5⟩ := hrow5.on (Agr.later hb6)
   rw [hlk] at x3
   have hF6 := FCN.of hn6
   rw [hdd] at hF6
   have hbr6 := hbr5.trans (hb6.mono hbr5.size)
   have hs6 : W4.heap.size ≤ w6.heap.size := hbr6.size
   have hs56 := hb6.size
   have hs45 := hbr5.size
   clear hcall k0 k1 k2 k3 k4 hrow5 hn6
   go_wp2_with (at_builtin; refine wpList_push w6 rfl _ _ 24 rfl W4.heap.size 26 (.agg #[.int .i64 0, .string ⟨#[]⟩, .string ⟨#[]⟩, .slice none 0 0, .slice none 0 0]) 5 88 Tryz.underlying24 info_flt rfl (by decide) _ _ _ x3 rfl [.int .i64 f.kids[k].kind, .string (B f.kids[k].name), .string (B f.kids[k].value), .slice Ap6 f.kids[k].parts.length cp6, .slice Ak6 f.kids[k].kids.length ck6] rfl rfl (by intro u hu; simp at hu; rcases hu with rfl | rfl | rfl | rfl | rfl <;> rfl) (by omega) hs6 ?_ rfl)
   intro v7 w7 hown7 hg7 hat7 hb7 _
   have hrow7 := RowF.push (Y := fun k => k < W5.heap.size) hlk x1 x2 x4 x5 rfl hF6 (fun j _ hj => by
    rcases hj with hj | hj
    ·exact Nat.lt_of_lt_of_le hj hs45
    ·exact hlt5 j hj) (fun j hj => Nat.lt_of_lt_of_le hj hs6) hown7 hg7 hat7
   rw [← List.take_succ_eq_append_getElem hlt] at hrow7
   clear hown7 hg7 hat7 x1 x2 x3 x4 x5 hF6 hlt5
   go_wp2_with fail
   go_roundw
   case rel => exact ⟨k + 1, by omega, by go_num, hrow7, hbr6.trans hb7⟩
   case measure => simp [intOf]; omega
  ·have hkk : k = f.kids.length := by omega
   subst hkk
   have hltI : ¬ (f.kids.length : Int) < (f.kids.length : Int) := by omega
   rw [List.take_of_length_le (by omega)] at hrow
   have B1r := B1'.later hbr
   have B2r := B2.later hbr
   have hNr := hN3.on (Agr.later hbr)
   have hKr := hrow.read.sub (Y := fun k => k < w.heap.size + 2) (fun j _ hj => by omega)
   have hfin := FltN.mk (f := f) hNr hKr
   clear hrow hN3 hNr hKr hk ih B1' B2 b4 hbr
   have g4 := B1r.fz 4
   have b4 := B1r.c4
   go_upto_region 9 with fail
   with_reducible refine gen_put4 (R := fun W => Code.wp Tryz.prog _ _ _ W) B1r ?_
   intro W8 hB8 B1s _
   replace hfin := hfin.on (Agr.but hB8 (by omega))
   replace hb := hb.trans (hB8.below (Nat.le_refl _) hb.size)
   replace B2r := B2r.but hB8 (by omega)
   obtain ⟨d0, d1, d2, d3, d4, df, dl⟩ := B1s
   obtain ⟨z0, z1, z2, z3, z4, zf, zl⟩ := B2r
   have g0 := zf 0
   have g1 := zf 1
   have g2 := zf 2
   have g3 := zf 3
   replace g4 := zf 4
   clear B1r b4 zf df hB8
   go_wp2_with fail
   exact bodyPost_ret (v := .agg #[.int .i64 f.kind, .string (B f.name), .string (B f.value), .slice A3 f.parts.length c3, .slice A f.kids.length c]) (by simp [results, Tryz.results54, go_sem, z0, z1, z2, z3, z4, g0, g1, g2, g3, g4]) rfl ⟨_, rfl, (hfin.on (Agr.but (put5 (w.heap.size + 1) _ _ _ _ _ _) (by omega))).sub (fun j _ hj => by omega), hb.trans ((put5 (w.heap.size + 1) _ _ _ _ _ _).below (by omega) hb.size)⟩
theorem mov_cases (f : Flt) (h : nodeErr f = 0) (b : Bool) :
    (f.kind = 3 ∧ ∃ g, f.kids = [g] ∧ nodeErr g = 0 ∧ fMov b f = fMov (!b) g) ∨
    ((f.kind = 1 ∨ f.kind = 2) ∧ (∀ g ∈ f.kids, nodeErr g = 0) ∧ fMov b f = .mk (if b then 3 - f.kind else f.kind) [] [] [] (f.kids.map (fMov b))) ∨
    ((f.kind == 1) = false ∧ (f.kind == 2) = false ∧ (f.kind == 3) = false ∧ fMov b f = if b then notF f else f) := by
  cases f with
  | mk k n v ps ks =>
    obtain ⟨h1, h2⟩ := nodeErr_zero.1 h
    have hf := ownErr_form h1
    obtain ⟨k1, k8⟩ := form_kind hf
    rcases kind_cases k1 k8 with rfl | hc | ⟨hk, hc⟩
    · obtain ⟨_, _, _, e4⟩ := form_not hf
      obtain ⟨g, rfl⟩ := one_kid e4
      exact .inl ⟨rfl, g, rfl, h2 g List.mem_cons_self, fMov_not b n v ps g⟩
    · obtain ⟨q1, q2, q3, _⟩ := cmp_kind hc
      exact .inr (.inr ⟨beq_eq_false_iff_ne.2 q1, beq_eq_false_iff_ne.2 q2, beq_eq_false_iff_ne.2 q3, fMov_cmp hc b n v ps ks⟩)
    · exact .inr (.inl ⟨hk, h2, fMov_set hk b n v ps ks⟩)
theorem FltsN.one {X : Nat → Prop} {w : World} {D : Nat} {f : Flt} {a b c d e : Value} (h : FCN X w D f [a, b, c, d, e]) (hX : ∀ k, X k → k < w.heap.size) :
    FltsN X (w.alloc (.cells #[a, b, c, d, e] 26)) D (.slice (some ⟨w.heap.size, 0, none⟩) 1 1) [f] := fun W hW => by
  have h0 := World.ownsRow_lit (base := w.heap.size) (e := 26) (size := 5) w #[a, b, c, d, e] 1 (Nat.le_refl _) (by decide) rfl
  have h1 : W.ownsRow w.heap.size 26 5 (.slice (some ⟨w.heap.size, 0, none⟩) 1 1) [f].length [a, b, c, d, e] := own_agr h0 hW (fun k hk hx => by
    simp [Value.ownBlock] at hk
    have := hX k hx; omega)
  refine SlV.own h1 fun i g hi => ?_
  match i, hi with
  | 0, hi =>
    simp at hi
    subst hi
    refine ⟨[a, b, c, d, e], rfl, h W ((Agr.later ((Below.refl _ _).alloc (Nat.le_refl _) _)).trans hW), fun j u hj => ?_⟩
    rw [Nat.zero_mul, Nat.zero_add]; exact hj
theorem simple_any : ∀ (d : Nat) (v : Value) (f : Flt) (b : Bool) (w : World), FltV w w.heap.size d v f → FSm 1000 f → nodeErr f = 0 → Calls Tryz.prog 55 #[v, .bool b] w (RetF w (d + 1) (fMov b f)) := by
  intro d
  induction d using Nat.strongRecOn with
  | _ d ih =>
  intro v f b w hv hs hne
  have hcl := fun W (hW : Below w.heap.size w W) => clone_any d _ f W (hv.on hW) hs
  obtain ⟨Ap, cp, Ak, ck, rfl, hp, hk⟩ := hv.shape
  have hks := hs.kids
  have hkl := hks.len
  have hmc := mov_cases f hne b
  generalize fMov b f = R at *
  generalize f.kind = kd at *
  clear hp hv hne
  rcases hmc with ⟨rfl, g, hkg, hg0, rfl⟩ | ⟨hk12, hkz, rfl⟩ | ⟨e1, e2, e3, rfl⟩
  · clear hcl
    obtain ⟨gb, off, Ap', cp', Ak', ck', hA, hgl, c0, c1, c2, c3, c4, hd, hkid⟩ := FltsV.kid2 hk (k := 0) (by rw [hkg]; exact Nat.one_pos)
    have hg : f.kids[0]'(by rw [hkg]; exact Nat.one_pos) = g := by simp [hkg]
    rw [hg] at c0 c1 c2 c3 c4 hkid
    simp only [Nat.zero_mul, Nat.add_zero] at c0 c1 c2 c3 c4
    subst hA
    have hl1 : f.kids.length = 1 := by rw [hkg]; rfl
    have hmg : FSm 1000 g := hks.mem (by rw [hkg]; exact List.mem_cons_self)
    rw [hl1] at hk ⊢
    clear hkg hg hl1 hk hkl hks
    go_enter Tryz.func55, Tryz.ntmps55
    go_upto_region 1 with fail
    with_reducible refine gen2g (R := fun W => Code.wp Tryz.prog _ _ _ W) ?_
    intro W hbW hszW hc1 hc2 hf1 hf2
    have b0 : W.cell? ⟨w.heap.size, 0, none⟩ = some (.int .i64 3) := hc1 0 _ rfl
    have b1 : W.cell? ⟨w.heap.size, 1, none⟩ = some (.string (B f.name)) := hc1 1 _ rfl
    have b2 : W.cell? ⟨w.heap.size, 2, none⟩ = some (.string (B f.value)) := hc1 2 _ rfl
    have b3 : W.cell? ⟨w.heap.size, 3, none⟩ = some (.slice Ap f.parts.length cp) := hc1 3 _ rfl
    have b4 : W.cell? ⟨w.heap.size, 4, none⟩ = some (.slice (some ⟨gb, off, none⟩) 1 ck) := hc1 4 _ rfl
    have B2 : Box5 W (w.heap.size + 1) (.int .i64 0) (.string ⟨#[]⟩) (.string ⟨#[]⟩) (.slice none 0 0) (.slice none 0 0) := ⟨hc2 0 _ rfl, hc2 1 _ rfl, hc2 2 _ rfl, hc2 3 _ rfl, hc2 4 _ rfl, hf2, by omega⟩
    have hlo : w.heap.size + 2 ≤ W.heap.size := by omega
    have hsW := Lib.hid hszW
    clear hc1 hc2 hf1 hf2 hszW
    replace c0 := cell_later hbW c0
    replace c1 := cell_later hbW c1
    replace c2 := cell_later hbW c2
    replace c3 := cell_later hbW c3
    replace c4 := cell_later hbW c4
    have hcall := ih (d - 1) (by omega) _ g (!b) W (hkid.on hbW) hmg hg0
    clear hkid ih
    go_wp2_with fail
    refine hcall.mono ?_
    rintro e w3 ⟨r3, rfl, hn3, hb3⟩
    obtain ⟨A3, k3, A4, k4, hr3⟩ := hn3.shape
    subst hr3
    have hfin := (hn3.sub (Y := fun k => k < w.heap.size + 2) (fun j _ hj => by omega)).deep (show d - 1 + 1 ≤ d + 1 by omega)
    replace B2 := B2.later hb3
    have hb := hbW.trans (hb3.mono hbW.size)
    clear hcall c0 c1 c2 c3 c4 b0 b1 b2 b3 b4 hn3
    obtain ⟨z0, z1, z2, z3, z4, zf, zl⟩ := B2
    have g0 := zf 0
    have g1 := zf 1
    have g2 := zf 2
    have g3 := zf 3
    have g4 := zf 4
    clear zf
    go_wp2_with fail
    exact bodyPost_ret (v := .agg #[.int .i64 (fMov (!b) g).kind, .string (B (fMov (!b) g).name), .string (B (fMov (!b) g).value), .slice A3 (fMov (!b) g).parts.length k3, .slice A4 (fMov (!b) g).kids.length k4]) (by simp [results, Tryz.results55, go_sem, z0, z1, z2, z3, z4, g0, g1, g2, g3, g4]) rfl ⟨_, rfl, (hfin.on (Agr.but (put5 (w.heap.size + 1) _ _ _ _ _ _) (by omega))).sub (fun j _ hj => by omega), hb.trans ((put5 (w.heap.size + 1) _ _ _ _ _ _).below (by omega) hb.size)⟩
  · clear hcl
    have h3 : (kd == 3) = false := by rw [beq_eq_false_iff_ne]; omega
    have h12 : (kd == 1) = true ∨ ((kd == 1) = false ∧ (kd == 2) = true) := by
      simp only [beq_iff_eq, beq_eq_false_iff_ne]; omega
    have hwr : IntKind.i64.wrap (3 - kd) = 3 - kd := IntWalk.i64_in _ (by omega)
    have hdd : ∀ D : Nat, 0 < D → D - 1 + 1 = D := fun D h => by omega
    cases b
    · simp only [Bool.false_eq_true, ↓reduceIte]
      rcases h12 with h1 | ⟨h1, h2⟩
      all_goals
        go_enter Tryz.func55, Tryz.ntmps55
        go_upto_region 1 with fail
        with_reducible refine gen2g (R := fun W => Code.wp Tryz.prog _ _ _ W) ?_
        intro W hbW hszW hc1 hc2 hf1 hf2
        have b0 : W.cell? ⟨w.heap.size, 0, none⟩ = some (.int .i64 kd) := hc1 0 _ rfl
        have b1 : W.cell? ⟨w.heap.size, 1, none⟩ = some (.string (B f.name)) := hc1 1 _ rfl
        have b2 : W.cell? ⟨w.heap.size, 2, none⟩ = some (.string (B f.value)) := hc1 2 _ rfl
        have b3 : W.cell? ⟨w.heap.size, 3, none⟩ = some (.slice Ap f.parts.length cp) := hc1 3 _ rfl
        have b4 : W.cell? ⟨w.heap.size, 4, none⟩ = some (.slice Ak f.kids.length ck) := hc1 4 _ rfl
        have B2 : Box5 W (w.heap.size + 1) (.int .i64 0) (.string ⟨#[]⟩) (.string ⟨#[]⟩) (.slice none 0 0) (.slice none 0 0) := ⟨hc2 0 _ rfl, hc2 1 _ rfl, hc2 2 _ rfl, hc2 3 _ rfl, hc2 4 _ rfl, hf2, by omega⟩
        have hlo : w.heap.size + 2 ≤ W.heap.size := by omega
        have hsW := Lib.hid hszW
        clear hc1 hc2 hf1 hf2 hszW
        go_upto_region 7 with fail
        with_reducible refine gen1 (R := fun W => Code.wp Tryz.prog _ _ _ W) ?_
        intro W2 hbW2 hszW2 hcc hff
        have G : Box5 W2 W.heap.size (.int .i64 kd) (.string ⟨#[]⟩) (.string ⟨#[]⟩) (.slice none 0 0) (.slice none 0 0) := ⟨hcc 0 _ rfl, hcc 1 _ rfl, hcc 2 _ rfl, hcc 3 _ rfl, hcc 4 _ rfl, hff, by omega⟩
        replace B2 := B2.later hbW2
        have b5 := cell_later hbW2 b4
        have hlo2 : W.heap.size + 1 ≤ W2.heap.size := by omega
        have hb2 := hbW.trans (hbW2.mono hbW.size)
        have b0 := cell_later hbW2 b0
        clear hcc hff hszW2 b1 b2 b3 hbW2
        obtain ⟨W3, hW3⟩ : ∃ W3 : World, W3 = W2 := ⟨_, rfl⟩
        subst hW3
        have hbW3 : Below w.heap.size W3 W3 := Below.refl _ _
        clear b0
        replace hb2 : Below w.heap.size w W3 := hb2.trans hbW3
        clear hbW3 b4
        have b4 := b5
        go_wp2_with fail
        go_loopw [33] (fun i wr => ∃ (k : Nat) (A : Option Addr) (c : Nat), k ≤ f.kids.length ∧ i = .int .i64 k ∧ Box5 wr W.heap.size (.int .i64 (kd)) (.string ⟨#[]⟩) (.string ⟨#[]⟩) (.slice none 0 0) (.slice A k c) ∧ RowF (fun j => j < W3.heap.size) wr W3.heap.size (d + 1) (.slice A k c) ((f.kids.take k).map (fMov false)) ∧ But W.heap.size W3 wr) (fun i _ => f.kids.length - (intOf i).toNat)
        case atStart => exact ⟨0, none, 0, Nat.zero_le _, rfl, G, RowF.nil _ _ _ _, But.refl _ _⟩
        case round =>
          obtain ⟨k, A, c, hk9, rfl, G, hrow, hbt⟩ := hrel
          have hlk : ((f.kids.take k).map (fMov false)).length = k := by rw [List.length_map, List.length_take]; omega
          have hb := hb2.trans (hbt.below (by omega) hb2.size)
          by_cases hlt : k < f.kids.length
          · obtain ⟨g, off, Ap', cp', Ak', ck', hA, hg, c0, c1, c2, c3', c4, hd, hkid⟩ := FltsV.kid2 (FltsV.keep hk hb) hlt
            subst hA
            have hltI : (k : Int) < (f.kids.length : Int) := by omega
            have hmem := List.getElem_mem hlt
            go_upto_region 12 with fail
            with_reducible refine gen1 (R := fun W => Code.wp Tryz.prog _ _ _ W) ?_
            intro W5 hbW5 hsz5 hc5 _
            have k0 : W5.drew.cell? ⟨wr.heap.size, 0, none⟩ = some (.int .i64 f.kids[k].kind) := hc5 0 _ rfl
            have k1 : W5.drew.cell? ⟨wr.heap.size, 1, none⟩ = some (.string (B f.kids[k].name)) := hc5 1 _ rfl
            have k2 : W5.drew.cell? ⟨wr.heap.size, 2, none⟩ = some (.string (B f.kids[k].value)) := hc5 2 _ rfl
            have k3 : W5.drew.cell? ⟨wr.heap.size, 3, none⟩ = some (.slice Ap' f.kids[k].parts.length cp') := hc5 3 _ rfl
            have k4 : W5.drew.cell? ⟨wr.heap.size, 4, none⟩ = some (.slice Ak' f.kids[k].kids.length ck') := hc5 4 _ rfl
            have hbW5d : Below wr.heap.size wr W5.drew := hbW5.drew
            have hcall := ih (d - 1) (by omega) _ f.kids[k] false W5.drew (FltV.on (FltV.mono hkid hb.size) hbW5d) (hks.mem hmem) (hkz _ hmem)
            have hbt5 : But W.heap.size W3 W5.drew := hbt.trans (But.of_below hbW5d _)
            have hrow5 := hrow.on (Agr.later hbW5d)
            have G5 := G.later hbW5d
            have q4 := G5.c4
            have hlt5 := fun j hj => (hrow5.lt j hj).2
            have hdd1 := hdd d hd
            have hs35 : W3.heap.size ≤ W5.drew.heap.size := hbt5.size
            clear hc5 hsz5 hkid c0 c1 c2 c3' c4 hbW5 hbW5d ih hk hrow hbt hb hd hmem
            go_wp2_with fail
            go_region_law (first
              | (go_simp
                 go_at_call 55
                 refine hcall.mono ?_
                 rintro e w6 ⟨r6, rfl, hn6, hb6⟩
                 obtain ⟨Ap6, cp6, Ak6, ck6, hr6⟩ := hn6.shape
                 subst hr6
                 obtain ⟨xs, x1, x2, x3, x4, x5⟩ := hrow5.on (Agr.later hb6)
                 rw [hlk] at x3
                 have hF6 := FCN.of hn6
                 rw [hdd1] at hF6
                 have G6 := G5.later hb6
                 have q46 := G6.c4
                 have q46a := cell_later ((Below.refl _ _).alloc (Nat.le_refl _) (.cells #[.int .i64 (fMov false f.kids[k]).kind, .string (B (fMov false f.kids[k]).name), .string (B (fMov false f.kids[k]).value), .slice Ap6 (fMov false f.kids[k]).parts.length cp6, .slice Ak6 (fMov false f.kids[k]).kids.length ck6] 26)) q46
                 have hs6 : W3.heap.size ≤ w6.heap.size := Nat.le_trans hs35 hb6.size
                 go_wp2_with fail)
              | (refine step_push rfl _ _ 24 rfl W3.heap.size 26 (.agg #[.int .i64 0, .string ⟨#[]⟩, .string ⟨#[]⟩, .slice none 0 0, .slice none 0 0]) 5 88 Tryz.underlying24 info_flt rfl (by decide) _ _ _ x3 rfl [.int .i64 (fMov false f.kids[k]).kind, .string (B (fMov false f.kids[k]).name), .string (B (fMov false f.kids[k]).value), .slice Ap6 (fMov false f.kids[k]).parts.length cp6, .slice Ak6 (fMov false f.kids[k]).kids.length ck6] rfl rfl (by intro u hu; simp at hu; rcases hu with rfl | rfl | rfl | rfl | rfl <;> rfl) (by omega) hs6 ?_ rfl
                 intro v7 w7 hown7 hg7 hat7
                 obtain ⟨A9, c9, hv9⟩ := own_shape hown7
                 subst hv9
                 have hb7 : Below W3.heap.size w6 w7 := (Below.refl _ _).grown hg7 hs6 (fun j hj => (x3.lt j hj).1)
                 have G7 := G6.keep hb7 (by omega)
                 have st1 := G7.c4
                 have st2 := G7.fz 4))
            all_goals
              have hrow7 := RowF.push (Y := fun j => j < W5.drew.heap.size) hlk x1 x2 x4 x5 rfl hF6 (fun j _ hj => by
                rcases hj with hj | hj
                · exact Nat.lt_of_lt_of_le hj hs35
                · exact hlt5 j hj) (fun j hj => Nat.lt_of_lt_of_le hj hs6) hown7 hg7 hat7
              have hap : (f.kids.take k).map (fMov false) ++ [fMov false f.kids[k]] = (f.kids.take (k + 1)).map (fMov false) := by rw [List.take_succ_eq_append_getElem hlt, List.map_append]; rfl
              rw [hap] at hrow7
              clear hap
              have hput : But W.heap.size w7 (w7.setCell ⟨W.heap.size, 4, none⟩ (.slice A9 (k + 1) c9)) := (But.refl _ _).put _
              have hrow8 := hrow7.on (Agr.but hput (by omega))
              have G8 := gen_put4 (R := fun Z => Box5 Z W.heap.size (.int .i64 (kd)) (.string ⟨#[]⟩) (.string ⟨#[]⟩) (.slice none 0 0) (.slice A9 (k + 1) c9)) (u := .slice A9 (k + 1) c9) G7 (fun _ _ h _ => h)
              have hbt8 := ((hbt5.trans (But.of_below hb6 _)).own (hb7.mono (Nat.le_refl _))).trans hput
              clear hrow7 G7 st1 st2 hput hown7 hg7 hat7 x1 x2 x3 x4 x5 hF6 hlt5 q46 q46a G6 G5 q4 hcall
              go_wp2_with fail
              go_roundw
              case rel => exact ⟨k + 1, A9, c9, by omega, by go_num, G8, hrow8, hbt8⟩
              case measure => simp [intOf]; omega
          · have hkk : k = f.kids.length := by omega
            subst hkk
            have hltI : ¬ (f.kids.length : Int) < (f.kids.length : Int) := by omega
            rw [List.take_of_length_le (by omega)] at hrow
            replace B2 := B2.but hbt (by omega)
            have hfin := FltN.mk (X := fun j => j < w.heap.size + 2) (f := .mk (kd) [] [] [] (f.kids.map (fMov false))) (StrsN.nil _ _) (hrow.read.sub (fun j _ hj => by omega))
            clear hrow hk ih b4 hbt
            obtain ⟨d0, d1, d2, d3, d4, df, dl⟩ := G
            obtain ⟨z0, z1, z2, z3, z4, zf, zl⟩ := B2
            have g0 := zf 0
            have g1 := zf 1
            have g2 := zf 2
            have g3 := zf 3
            have g4 := zf 4
            clear zf
            clear df
            go_wp2_with fail
            exact bodyPost_ret (v := .agg #[.int .i64 (kd), .string ⟨#[]⟩, .string ⟨#[]⟩, .slice none 0 0, .slice A f.kids.length c]) (by simp [results, Tryz.results55, go_sem, z0, z1, z2, z3, z4, g0, g1, g2, g3, g4]) rfl ⟨_, rfl, (hfin.on (Agr.but (put5 (w.heap.size + 1) _ _ _ _ _ _) (by omega))).sub (fun j _ hj => by omega), hb.trans ((put5 (w.heap.size + 1) _ _ _ _ _ _).below (by omega) hb.size)⟩
    · simp only [Bool.false_eq_true, ↓reduceIte]
      rcases h12 with h1 | ⟨h1, h2⟩
      all_goals
        go_enter Tryz.func55, Tryz.ntmps55
        go_upto_region 1 with fail
        with_reducible refine gen2g (R := fun W => Code.wp Tryz.prog _ _ _ W) ?_
        intro W hbW hszW hc1 hc2 hf1 hf2
        have b0 : W.cell? ⟨w.heap.size, 0, none⟩ = some (.int .i64 kd) := hc1 0 _ rfl
        have b1 : W.cell? ⟨w.heap.size, 1, none⟩ = some (.string (B f.name)) := hc1 1 _ rfl
        have b2 : W.cell? ⟨w.heap.size, 2, none⟩ = some (.string (B f.value)) := hc1 2 _ rfl
        have b3 : W.cell? ⟨w.heap.size, 3, none⟩ = some (.slice Ap f.parts.length cp) := hc1 3 _ rfl
        have b4 : W.cell? ⟨w.heap.size, 4, none⟩ = some (.slice Ak f.kids.length ck) := hc1 4 _ rfl
        have B2 : Box5 W (w.heap.size + 1) (.int .i64 0) (.string ⟨#[]⟩) (.string ⟨#[]⟩) (.slice none 0 0) (.slice none 0 0) := ⟨hc2 0 _ rfl, hc2 1 _ rfl, hc2 2 _ rfl, hc2 3 _ rfl, hc2 4 _ rfl, hf2, by omega⟩
        have hlo : w.heap.size + 2 ≤ W.heap.size := by omega
        have hsW := Lib.hid hszW
        clear hc1 hc2 hf1 hf2 hszW
        go_upto_region 7 with fail
        with_reducible refine gen1 (R := fun W => Code.wp Tryz.prog _ _ _ W) ?_
        intro W2 hbW2 hszW2 hcc hff
        have G : Box5 W2 W.heap.size (.int .i64 kd) (.string ⟨#[]⟩) (.string ⟨#[]⟩) (.slice none 0 0) (.slice none 0 0) := ⟨hcc 0 _ rfl, hcc 1 _ rfl, hcc 2 _ rfl, hcc 3 _ rfl, hcc 4 _ rfl, hff, by omega⟩
        replace B2 := B2.later hbW2
        have b5 := cell_later hbW2 b4
        have hlo2 : W.heap.size + 1 ≤ W2.heap.size := by omega
        have hb2 := hbW.trans (hbW2.mono hbW.size)
        have b0 := cell_later hbW2 b0
        clear hcc hff hszW2 b1 b2 b3 hbW2
        have g0 := G.c0
        have gf := G.fz 0
        go_upto_region 9 with fail
        with_reducible refine gen_put0 (R := fun W => Code.wp Tryz.prog _ _ _ W) G ?_
        intro W3 hbP G3 hsz3
        have b5' := hbP.cell b5 (by omega) (by omega)
        replace B2 := B2.but hbP (by omega)
        have hbW3 : Below w.heap.size W2 W3 := hbP.below (by omega) hb2.size
        replace hlo2 : W.heap.size + 1 ≤ W3.heap.size := by omega
        clear b5 g0 gf b0 G
        have G := G3
        have b5 := b5'
        clear G3 b5' hbP hsz3
        replace hb2 : Below w.heap.size w W3 := hb2.trans hbW3
        clear hbW3 b4
        have b4 := b5
        go_wp2_with fail
        go_loopw [33] (fun i wr => ∃ (k : Nat) (A : Option Addr) (c : Nat), k ≤ f.kids.length ∧ i = .int .i64 k ∧ Box5 wr W.heap.size (.int .i64 (3 - kd)) (.string ⟨#[]⟩) (.string ⟨#[]⟩) (.slice none 0 0) (.slice A k c) ∧ RowF (fun j => j < W3.heap.size) wr W3.heap.size (d + 1) (.slice A k c) ((f.kids.take k).map (fMov true)) ∧ But W.heap.size W3 wr) (fun i _ => f.kids.length - (intOf i).toNat)
        case atStart => exact ⟨0, none, 0, Nat.zero_le _, rfl, G, RowF.nil _ _ _ _, But.refl _ _⟩
        case round =>
          obtain ⟨k, A, c, hk9, rfl, G, hrow, hbt⟩ := hrel
          have hlk : ((f.kids.take k).map (fMov true)).length = k := by rw [List.length_map, List.length_take]; omega
          have hb := hb2.trans (hbt.below (by omega) hb2.size)
          by_cases hlt : k < f.kids.length
          · obtain ⟨g, off, Ap', cp', Ak', ck', hA, hg, c0, c1, c2, c3', c4, hd, hkid⟩ := FltsV.kid2 (FltsV.keep hk hb) hlt
            subst hA
            have hltI : (k : Int) < (f.kids.length : Int) := by omega
            have hmem := List.getElem_mem hlt
            go_upto_region 12 with fail
            with_reducible refine gen1 (R := fun W => Code.wp Tryz.prog _ _ _ W) ?_
            intro W5 hbW5 hsz5 hc5 _
            have k0 : W5.drew.cell? ⟨wr.heap.size, 0, none⟩ = some (.int .i64 f.kids[k].kind) := hc5 0 _ rfl
            have k1 : W5.drew.cell? ⟨wr.heap.size, 1, none⟩ = some (.string (B f.kids[k].name)) := hc5 1 _ rfl
            have k2 : W5.drew.cell? ⟨wr.heap.size, 2, none⟩ = some (.string (B f.kids[k].value)) := hc5 2 _ rfl
            have k3 : W5.drew.cell? ⟨wr.heap.size, 3, none⟩ = some (.slice Ap' f.kids[k].parts.length cp') := hc5 3 _ rfl
            have k4 : W5.drew.cell? ⟨wr.heap.size, 4, none⟩ = some (.slice Ak' f.kids[k].kids.length ck') := hc5 4 _ rfl
            have hbW5d : Below wr.heap.size wr W5.drew := hbW5.drew
            have hcall := ih (d - 1) (by omega) _ f.kids[k] true W5.drew (FltV.on (FltV.mono hkid hb.size) hbW5d) (hks.mem hmem) (hkz _ hmem)
            have hbt5 : But W.heap.size W3 W5.drew := hbt.trans (But.of_below hbW5d _)
            have hrow5 := hrow.on (Agr.later hbW5d)
            have G5 := G.later hbW5d
            have q4 := G5.c4
            have hlt5 := fun j hj => (hrow5.lt j hj).2
            have hdd1 := hdd d hd
            have hs35 : W3.heap.size ≤ W5.drew.heap.size := hbt5.size
            clear hc5 hsz5 hkid c0 c1 c2 c3' c4 hbW5 hbW5d ih hk hrow hbt hb hd hmem
            go_wp2_with fail
            go_region_law (first
              | (go_simp
                 go_at_call 55
                 refine hcall.mono ?_
                 rintro e w6 ⟨r6, rfl, hn6, hb6⟩
                 obtain ⟨Ap6, cp6, Ak6, ck6, hr6⟩ := hn6.shape
                 subst hr6
                 obtain ⟨xs, x1, x2, x3, x4, x5⟩ := hrow5.on (Agr.later hb6)
                 rw [hlk] at x3
                 have hF6 := FCN.of hn6
                 rw [hdd1] at hF6
                 have G6 := G5.later hb6
                 have q46 := G6.c4
                 have q46a := cell_later ((Below.refl _ _).alloc (Nat.le_refl _) (.cells #[.int .i64 (fMov true f.kids[k]).kind, .string (B (fMov true f.kids[k]).name), .string (B (fMov true f.kids[k]).value), .slice Ap6 (fMov true f.kids[k]).parts.length cp6, .slice Ak6 (fMov true f.kids[k]).kids.length ck6] 26)) q46
                 have hs6 : W3.heap.size ≤ w6.heap.size := Nat.le_trans hs35 hb6.size
                 go_wp2_with fail)
              | (refine step_push rfl _ _ 24 rfl W3.heap.size 26 (.agg #[.int .i64 0, .string ⟨#[]⟩, .string ⟨#[]⟩, .slice none 0 0, .slice none 0 0]) 5 88 Tryz.underlying24 info_flt rfl (by decide) _ _ _ x3 rfl [.int .i64 (fMov true f.kids[k]).kind, .string (B (fMov true f.kids[k]).name), .string (B (fMov true f.kids[k]).value), .slice Ap6 (fMov true f.kids[k]).parts.length cp6, .slice Ak6 (fMov true f.kids[k]).kids.length ck6] rfl rfl (by intro u hu; simp at hu; rcases hu with rfl | rfl | rfl | rfl | rfl <;> rfl) (by omega) hs6 ?_ rfl
                 intro v7 w7 hown7 hg7 hat7
                 obtain ⟨A9, c9, hv9⟩ := own_shape hown7
                 subst hv9
                 have hb7 : Below W3.heap.size w6 w7 := (Below.refl _ _).grown hg7 hs6 (fun j hj => (x3.lt j hj).1)
                 have G7 := G6.keep hb7 (by omega)
                 have st1 := G7.c4
                 have st2 := G7.fz 4))
            all_goals
              have hrow7 := RowF.push (Y := fun j => j < W5.drew.heap.size) hlk x1 x2 x4 x5 rfl hF6 (fun j _ hj => by
                rcases hj with hj | hj
                · exact Nat.lt_of_lt_of_le hj hs35
                · exact hlt5 j hj) (fun j hj => Nat.lt_of_lt_of_le hj hs6) hown7 hg7 hat7
              have hap : (f.kids.take k).map (fMov true) ++ [fMov true f.kids[k]] = (f.kids.take (k + 1)).map (fMov true) := by rw [List.take_succ_eq_append_getElem hlt, List.map_append]; rfl
              rw [hap] at hrow7
              clear hap
              have hput : But W.heap.size w7 (w7.setCell ⟨W.heap.size, 4, none⟩ (.slice A9 (k + 1) c9)) := (But.refl _ _).put _
              have hrow8 := hrow7.on (Agr.but hput (by omega))
              have G8 := gen_put4 (R := fun Z => Box5 Z W.heap.size (.int .i64 (3 - kd)) (.string ⟨#[]⟩) (.string ⟨#[]⟩) (.slice none 0 0) (.slice A9 (k + 1) c9)) (u := .slice A9 (k + 1) c9) G7 (fun _ _ h _ => h)
              have hbt8 := ((hbt5.trans (But.of_below hb6 _)).own (hb7.mono (Nat.le_refl _))).trans hput
              clear hrow7 G7 st1 st2 hput hown7 hg7 hat7 x1 x2 x3 x4 x5 hF6 hlt5 q46 q46a G6 G5 q4 hcall
              go_wp2_with fail
              go_roundw
              case rel => exact ⟨k + 1, A9, c9, by omega, by go_num, G8, hrow8, hbt8⟩
              case measure => simp [intOf]; omega
          · have hkk : k = f.kids.length := by omega
            subst hkk
            have hltI : ¬ (f.kids.length : Int) < (f.kids.length : Int) := by omega
            rw [List.take_of_length_le (by omega)] at hrow
            replace B2 := B2.but hbt (by omega)
            have hfin := FltN.mk (X := fun j => j < w.heap.size + 2) (f := .mk (3 - kd) [] [] [] (f.kids.map (fMov true))) (StrsN.nil _ _) (hrow.read.sub (fun j _ hj => by omega))
            clear hrow hk ih b4 hbt
            obtain ⟨d0, d1, d2, d3, d4, df, dl⟩ := G
            obtain ⟨z0, z1, z2, z3, z4, zf, zl⟩ := B2
            have g0 := zf 0
            have g1 := zf 1
            have g2 := zf 2
            have g3 := zf 3
            have g4 := zf 4
            clear zf
            clear df
            go_wp2_with fail
            exact bodyPost_ret (v := .agg #[.int .i64 (3 - kd), .string ⟨#[]⟩, .string ⟨#[]⟩, .slice none 0 0, .slice A f.kids.length c]) (by simp [results, Tryz.results55, go_sem, z0, z1, z2, z3, z4, g0, g1, g2, g3, g4]) rfl ⟨_, rfl, (hfin.on (Agr.but (put5 (w.heap.size + 1) _ _ _ _ _ _) (by omega))).sub (fun j _ hj => by omega), hb.trans ((put5 (w.heap.size + 1) _ _ _ _ _ _).below (by omega) hb.size)⟩
  · cases b
    · simp only [Bool.false_eq_true, ↓reduceIte]
      go_enter Tryz.func55, Tryz.ntmps55
      go_upto_region 1 with fail
      with_reducible refine gen2g (R := fun W => Code.wp Tryz.prog _ _ _ W) ?_
      intro W hbW hszW hc1 hc2 hf1 hf2
      have b0 : W.cell? ⟨w.heap.size, 0, none⟩ = some (.int .i64 kd) := hc1 0 _ rfl
      have b1 : W.cell? ⟨w.heap.size, 1, none⟩ = some (.string (B f.name)) := hc1 1 _ rfl
      have b2 : W.cell? ⟨w.heap.size, 2, none⟩ = some (.string (B f.value)) := hc1 2 _ rfl
      have b3 : W.cell? ⟨w.heap.size, 3, none⟩ = some (.slice Ap f.parts.length cp) := hc1 3 _ rfl
      have b4 : W.cell? ⟨w.heap.size, 4, none⟩ = some (.slice Ak f.kids.length ck) := hc1 4 _ rfl
      have B2 : Box5 W (w.heap.size + 1) (.int .i64 0) (.string ⟨#[]⟩) (.string ⟨#[]⟩) (.slice none 0 0) (.slice none 0 0) := ⟨hc2 0 _ rfl, hc2 1 _ rfl, hc2 2 _ rfl, hc2 3 _ rfl, hc2 4 _ rfl, hf2, by omega⟩
      have hlo : w.heap.size + 2 ≤ W.heap.size := by omega
      have hsW := Lib.hid hszW
      clear hc1 hc2 hf1 hf2 hszW
      have hcall := hcl W hbW
      clear hcl ih hk
      go_wp2_with fail
      refine hcall.mono ?_
      rintro e w3 ⟨r3, rfl, hn3, hb3⟩
      obtain ⟨A3, k3, A4, k4, hr3⟩ := hn3.shape
      subst hr3
      have hfin := (hn3.sub (Y := fun k => k < w.heap.size + 2) (fun j _ hj => by omega)).deep (show d ≤ d + 1 by omega)
      replace B2 := B2.later hb3
      have hb := hbW.trans (hb3.mono hbW.size)
      clear hcall b0 b1 b2 b3 b4 hn3
      obtain ⟨z0, z1, z2, z3, z4, zf, zl⟩ := B2
      have g0 := zf 0
      have g1 := zf 1
      have g2 := zf 2
      have g3 := zf 3
      have g4 := zf 4
      clear zf
      go_wp2_with fail
      exact bodyPost_ret (v := .agg #[.int .i64 f.kind, .string (B f.name), .string (B f.value), .slice A3 f.parts.length k3, .slice A4 f.kids.length k4]) (by simp [results, Tryz.results55, go_sem, z0, z1, z2, z3, z4, g0, g1, g2, g3, g4]) rfl ⟨_, rfl, (hfin.on (Agr.but (put5 (w.heap.size + 1) _ _ _ _ _ _) (by omega))).sub (fun j _ hj => by omega), hb.trans ((put5 (w.heap.size + 1) _ _ _ _ _ _).below (by omega) hb.size)⟩
    · simp only [↓reduceIte]
      go_enter Tryz.func55, Tryz.ntmps55
      go_upto_region 1 with fail
      with_reducible refine gen2g (R := fun W => Code.wp Tryz.prog _ _ _ W) ?_
      intro W hbW hszW hc1 hc2 hf1 hf2
      have b0 : W.cell? ⟨w.heap.size, 0, none⟩ = some (.int .i64 kd) := hc1 0 _ rfl
      have b1 : W.cell? ⟨w.heap.size, 1, none⟩ = some (.string (B f.name)) := hc1 1 _ rfl
      have b2 : W.cell? ⟨w.heap.size, 2, none⟩ = some (.string (B f.value)) := hc1 2 _ rfl
      have b3 : W.cell? ⟨w.heap.size, 3, none⟩ = some (.slice Ap f.parts.length cp) := hc1 3 _ rfl
      have b4 : W.cell? ⟨w.heap.size, 4, none⟩ = some (.slice Ak f.kids.length ck) := hc1 4 _ rfl
      have B2 : Box5 W (w.heap.size + 1) (.int .i64 0) (.string ⟨#[]⟩) (.string ⟨#[]⟩) (.slice none 0 0) (.slice none 0 0) := ⟨hc2 0 _ rfl, hc2 1 _ rfl, hc2 2 _ rfl, hc2 3 _ rfl, hc2 4 _ rfl, hf2, by omega⟩
      have hlo : w.heap.size + 2 ≤ W.heap.size := by omega
      have hsW := Lib.hid hszW
      clear hc1 hc2 hf1 hf2 hszW
      have hcall := hcl W hbW
      clear hcl ih hk
      go_wp2_with fail
      refine hcall.mono ?_
      rintro e w3 ⟨r3, rfl, hn3, hb3⟩
      obtain ⟨A3, k3, A4, k4, hr3⟩ := hn3.shape
      subst hr3
      have hfin := FltN.mk (f := notF f) (StrsN.nil _ _) (FltsN.one (FCN.of (hn3.sub (Y := fun k => k < w.heap.size + 2) (fun j _ hj => by omega))) (fun j hj => by have := hb3.size; omega))
      replace B2 := B2.later (hb3.alloc hb3.size (.cells #[.int .i64 f.kind, .string (B f.name), .string (B f.value), .slice A3 f.parts.length k3, .slice A4 f.kids.length k4] 26))
      have hb := (hbW.trans (hb3.mono hbW.size)).alloc (hbW.trans (hb3.mono hbW.size)).size (.cells #[.int .i64 f.kind, .string (B f.name), .string (B f.value), .slice A3 f.parts.length k3, .slice A4 f.kids.length k4] 26)
      have hsw := hb3.size
      clear hcall b0 b1 b2 b3 b4 hn3
      obtain ⟨z0, z1, z2, z3, z4, zf, zl⟩ := B2
      have g0 := zf 0
      have g1 := zf 1
      have g2 := zf 2
      have g3 := zf 3
      have g4 := zf 4
      clear zf
      go_wp2_with fail
      exact bodyPost_ret (v := .agg #[.int .i64 3, .string ⟨#[]⟩, .string ⟨#[]⟩, .slice none 0 0, .slice (some ⟨w3.heap.size, 0, none⟩) 1 1]) (by simp [results, Tryz.results55, go_sem, z0, z1, z2, z3, z4, g0, g1, g2, g3, g4]) rfl ⟨_, rfl, (hfin.on (Agr.but (put5 (w.heap.size + 1) _ _ _ _ _ _) (by omega))).sub (fun j _ hj => by omega), hb.trans ((put5 (w.heap.size + 1) _ _ _ _ _ _).below (by omega) hb.size)⟩
end Go.Proofs.YtmamnmjfbadiiaaGreatDoor
/- law09: equal, not, person. -/
namespace Go.Proofs.YtmamnmjfbadiiaaGreatDoor
open Go.RowKit Go.Sort
open Idn (L B Bs drop_L take_L size_L)
theorem equal9_any (n v : ByteArray) (w : World) :
  Calls Tryz.prog 32 #[.string n, .string v] w fun e w' => e = .returned (.agg #[.int .i64 4, .string n, .string v, .slice none 0 0, .slice none 0 0]) ∧ Below w.heap.size w w' := by
 go_enter Tryz.func32, Tryz.ntmps32
 go_upto_region 1 with fail
 with_reducible refine gen1 (R := fun W => Code.wp Tryz.prog _ _ _ W) ?_
 intro W hbW hszW hc hf
 have B2 : Box5 W w.heap.size (.int .i64 0) (.string ⟨#[]⟩) (.string ⟨#[]⟩) (.slice none 0 0) (.slice none 0 0) := ⟨hc 0 _ rfl, hc 1 _ rfl, hc 2 _ rfl, hc 3 _ rfl, hc 4 _ rfl, hf, by omega⟩
 clear hc hf hszW
 obtain ⟨z0, z1, z2, z3, z4, zf, zl⟩ := B2
 have g0 := zf 0
 have g1 := zf 1
 have g2 := zf 2
 have g3 := zf 3
 have g4 := zf 4
 clear zf
 go_wp2_with fail
 exact bodyPost_ret (v := .agg #[.int .i64 4, .string n, .string v, .slice none 0 0, .slice none 0 0]) (by simp [results, Tryz.results32, go_sem, z0, z1, z2, z3, z4, g0, g1, g2, g3, g4]) rfl ⟨rfl, hbW.trans ((put5 w.heap.size _ _ _ _ _ _).below (Nat.le_refl _) hbW.size)⟩
theorem eqF_read (n v : Bs) (w : World) (hi d : Nat) : FltV w hi d (.agg #[.int .i64 4, .string (B n), .string (B v), .slice none 0 0, .slice none 0 0]) (E9.eqF n v) := ⟨_, _, rfl, SlV.nil _ _ _ _, SlV.nil _ _ _ _⟩
def RetFV (w : World) (d : Nat) (f : Flt) (e : Ending) (w' : World) : Prop := ∃ r, e = .returned r ∧ FltV w' w'.heap.size d r f ∧ Below w.heap.size w w'
theorem not9_any (d : Nat) (v : Value) (f : Flt) (w : World) (hv : FltV w w.heap.size d v f) : Calls Tryz.prog 30 #[v] w (RetFV w (d + 1) (notF f)) := by
 have hN : FltN (fun j => j = w.heap.size + 1) w d v f := FltN.old hv (fun _ h => by omega) (Nat.le_refl _)
 obtain ⟨Ap, cp, Ak, ck, rfl, hp, hk⟩ := hv.shape
 go_enter Tryz.func30, Tryz.ntmps30
 go_upto_region 1 with fail
 with_reducible refine gen2g (R := fun W => Code.wp Tryz.prog _ _ _ W) ?_
 intro W hbW hszW hc1 hc2 hf1 hf2
 have b0 : W.cell? ⟨w.heap.size, 0, none⟩ = some (.int .i64 f.kind) := hc1 0 _ rfl
 have b1 : W.cell? ⟨w.heap.size, 1, none⟩ = some (.string (B f.name)) := hc1 1 _ rfl
 have b2 : W.cell? ⟨w.heap.size, 2, none⟩ = some (.string (B f.value)) := hc1 2 _ rfl
 have b3 : W.cell? ⟨w.heap.size, 3, none⟩ = some (.slice Ap f.parts.length cp) := hc1 3 _ rfl
 have b4 : W.cell? ⟨w.heap.size, 4, none⟩ = some (.slice Ak f.kids.length ck) := hc1 4 _ rfl
 have B2 : Box5 W (w.heap.size + 1) (.int .i64 0) (.string ⟨#[]⟩) (.string ⟨#[]⟩) (.slice none 0 0) (.slice none 0 0) := ⟨hc2 0 _ rfl, hc2 1 _ rfl, hc2 2 _ rfl, hc2 3 _ rfl, hc2 4 _ rfl, hf2, by omega⟩
 have hsz := Lib.hid hszW
 have hK := FltsN.one (FCN.of (hN.on (Agr.later hbW))) (fun _ h => by omega)
 have hal : Below W.heap.size W (W.alloc (.cells #[.int .i64 f.kind, .string (B f.name), .string (B f.value), .slice Ap f.parts.length cp, .slice Ak f.kids.length ck] 26)) := (Below.refl _ _).alloc (Nat.le_refl _) _
 replace B2 := B2.later hal
 have hb := hbW.trans (hal.mono hbW.size)
 have hfin := FltN.mk (f := notF f) (StrsN.nil _ _) hK
 clear hc1 hc2 hf1 hf2 hszW hN hv hp hk hal hK
 obtain ⟨z0, z1, z2, z3, z4, zf, zl⟩ := B2
 have g0 := zf 0
 have g1 := zf 1
 have g2 := zf 2
 have g3 := zf 3
 have g4 := zf 4
 clear zf
 go_wp2_with fail
 exact bodyPost_ret (v := .agg #[.int .i64 3, .string ⟨#[]⟩, .string ⟨#[]⟩, .slice none 0 0, .slice (some ⟨W.heap.size, 0, none⟩) 1 1]) (by simp [results, Tryz.results30, go_sem, z0, z1, z2, z3, z4, g0, g1, g2, g3, g4]) rfl ⟨_, rfl, (hfin.on (Agr.but (put5 (w.heap.size + 1) _ _ _ _ _ _) rfl)).now, hb.trans ((put5 (w.heap.size + 1) _ _ _ _ _ _).below (by omega) hb.size)⟩
theorem person_any (w : World) :
  Calls Tryz.prog 33 #[] w fun e w' => ∃ v, e = .returned v ∧ SchV w' w'.heap.size v E9.personS ∧ Below w.heap.size w w' := by
 go_enter Tryz.func33, Tryz.ntmps33
 go_wp2
 with_reducible refine genW (R := fun W => bodyPost _ _ _ _ _ W) (Q := fun W => (W.cell? ⟨w.heap.size, 0, none⟩ = some (.slice (some ⟨w.heap.size + 1, 0, none⟩) 3 3) ∧ W.cell? ⟨w.heap.size, 1, none⟩ = some (.slice none 0 0)) ∧
  SchV W W.heap.size (.agg #[.slice (some ⟨w.heap.size + 1, 0, none⟩) 3 3, .slice none 0 0]) E9.personS ∧ Below w.heap.size w W) ?_ ?_
 ·refine ⟨⟨?_, ?_⟩, ⟨_, _, rfl, ?_, ?_⟩, ?_⟩
  ·refine Eq.trans (World.ownsRow.cellAt (n := 1) (size := 2) ((litR w _ 1 2 _ _ rfl (by decide) rfl).alloc _) 0 (by decide)) ?_
   rfl
  ·refine Eq.trans (World.ownsRow.cellAt (n := 1) (size := 2) ((litR w _ 1 2 _ _ rfl (by decide) rfl).alloc _) 1 (by decide)) ?_
   rfl
  ·refine SlV.own (litR _ _ 3 3 _ _ (by simp) (by decide) rfl) fun i x hx => ?_
   match i, hx with
   | 0, hx => injection hx with hx; subst hx; exact ⟨_, rfl, rfl, fun j u hj => by match j, hj with | 0, hj => exact hj | 1, hj => exact hj | 2, hj => exact hj⟩
   | 1, hx => injection hx with hx; subst hx; exact ⟨_, rfl, rfl, fun j u hj => by match j, hj with | 0, hj => exact hj | 1, hj => exact hj | 2, hj => exact hj⟩
   | 2, hx => injection hx with hx; subst hx; exact ⟨_, rfl, rfl, fun j u hj => by match j, hj with | 0, hj => exact hj | 1, hj => exact hj | 2, hj => exact hj⟩
  ·exact SlV.nil _ _ _ _
  ·repeat (first | with_reducible exact Below.refl _ _ | with_reducible refine Below.lay ?_ _)
 ·rintro W ⟨⟨k0, k1⟩, hS, hb⟩
  exact bodyPost_ret (by simp [results, Tryz.results33, go_sem, k0, k1]) rfl ⟨_, rfl, hS, hb⟩
end Go.Proofs.YtmamnmjfbadiiaaGreatDoor
/- filter: Simplify, Equal; slices.EqualFunc at filters. -/
namespace Go.Proofs.YtmamnmjfbadiiaaGreatDoor
open Go.RowKit Go.Sort
open Idn (L B Bs drop_L take_L size_L)
theorem fMov_size : ∀ (f : Flt), nodeErr f = 0 → ∀ b, fSize (fMov b f) ≤ 2 * fSize f := by
  intro f
  induction f using Flt.ind with
  | h k n v ps ks ih =>
    intro hne b
    obtain ⟨h1, h2⟩ := nodeErr_zero.1 hne
    have hf := ownErr_form h1
    obtain ⟨k1, k8⟩ := form_kind hf
    rcases kind_cases k1 k8 with rfl | hc | ⟨hk, hc⟩
    · obtain ⟨_, _, _, e4⟩ := form_not hf
      obtain ⟨g, rfl⟩ := one_kid e4
      rw [fMov_not]
      have := ih g List.mem_cons_self (h2 g List.mem_cons_self) (!b)
      rw [fSize, fSizes, fSizes]; omega
    · rw [fMov_cmp hc]
      have h0 := form_leaf hf hc
      have : ks = [] := List.eq_nil_of_length_eq_zero h0
      subst this
      cases b <;> simp [notF, fSize, fSizes]
    · rw [fMov_set hk, fSize, fSize]
      have : ∀ l : List Flt, (∀ f ∈ l, ∀ b, fSize (fMov b f) ≤ 2 * fSize f) → fSizes (l.map (fMov b)) ≤ 2 * fSizes l := by
        intro l
        induction l with
        | nil => intro _; simp [fSizes]
        | cons g l ihl =>
          intro h
          have a1 := h g List.mem_cons_self b
          have a2 := ihl fun f hf => h f (List.mem_cons_of_mem _ hf)
          rw [List.map_cons, fSizes, fSizes]; omega
      have := this ks fun f hf b => ih f hf (h2 f hf) b
      omega
theorem fOk_mk {k : Int} {n v : Bs} {ps : List Bs} {ks : List Flt} : fOk (.mk k n v ps ks) ↔ (n.length ≤ 100000 ∧ v.length ≤ 100000 ∧ ps.length ≤ 1000 ∧ ∀ x ∈ ps, x.length ≤ 100000) ∧ ∀ g ∈ ks, fOk g := by rw [fOk, fOks_all]
theorem fMov_ok : ∀ (f : Flt), nodeErr f = 0 → fOk f → ∀ b, fOk (fMov b f) := by
  intro f
  induction f using Flt.ind with
  | h k n v ps ks ih =>
    intro hne ho b
    obtain ⟨h1, h2⟩ := nodeErr_zero.1 hne
    have hf := ownErr_form h1
    obtain ⟨k1, k8⟩ := form_kind hf
    obtain ⟨o1, o2⟩ := fOk_mk.1 ho
    rcases kind_cases k1 k8 with rfl | hc | ⟨hk, hc⟩
    · obtain ⟨_, _, _, e4⟩ := form_not hf
      obtain ⟨g, rfl⟩ := one_kid e4
      rw [fMov_not]
      exact ih g List.mem_cons_self (h2 g List.mem_cons_self) (o2 g List.mem_cons_self) (!b)
    · rw [fMov_cmp hc]
      cases b
      · exact ho
      · exact fOk_mk.2 ⟨by simp, by simpa using ho⟩
    · rw [fMov_set hk]
      refine fOk_mk.2 ⟨by simp, fun g hg => ?_⟩
      obtain ⟨x, hx, rfl⟩ := List.mem_map.1 hg
      exact ih x hx (h2 x hx) (o2 x hx) b
theorem fMov_sm {n : Nat} {f : Flt} (h : FSm n f) (hne : nodeErr f = 0) (b : Bool) : FSm (2 * n) (fMov b f) := ⟨by have := fMov_size f hne b; have := h.1; omega, fMov_ok f hne h.2 b⟩
theorem FSm.up {n m : Nat} {f : Flt} (h : FSm n f) (hm : n ≤ m) : FSm m f := ⟨Nat.le_trans h.1 hm, h.2⟩
theorem simplify_any (d : Nat) (v : Value) (f : Flt) (w : World) (hv : FltV w w.heap.size d v f) (hs : FSm 400 f) : Calls Tryz.prog 28 #[v] w (RetF w (d + 1) (fSimp f)) := by
 have hs1 : FSm 1000 f := hs.up (by decide)
 have kC := fun W (hW : Below w.heap.size w W) => fCheck_any d _ f W (hv.on hW) hs1
 have kL := fun W (hW : Below w.heap.size w W) => clone_any d _ f W (hv.on hW) hs1
 have kS := fun (hz : nodeErr f = 0) W (hW : Below w.heap.size w W) => simple_any d _ f false W (hv.on hW) hs1 hz
 have kZ := fun (hz : fCheck f = 0) => (fCheck_zero.1 hz).2.2
 have HR : Hid (fSimp f = if fCheck f != 0 then f else if fCheck (fMov false f) != 0 then f else fMov false f) := rfl
 have hsm := fun (hz : nodeErr f = 0) => (fMov_sm hs hz false).up (show 2 * 400 ≤ 1000 by decide)
 obtain ⟨Ap, cp, Ak, ck, rfl, hp, hk⟩ := hv.shape
 generalize fSimp f = R at *
 generalize fCheck f = ec at *
 clear hp hk hv hs hs1
 by_cases hec : ec = 0
 case neg =>
  have hI : (ec != 0) = true := by simpa using hec
  have HF : Hid (R = f) := by show _ = _; rw [HR.out, hI]; rfl
  clear HR kS kZ hsm hec
  go_enter Tryz.func28, Tryz.ntmps28
  go_upto_region 1 with fail
  with_reducible refine gen2g (R := fun W => Code.wp Tryz.prog _ _ _ W) ?_
  intro W hbW hszW hc1 hc2 hf1 hf2
  have b0 : W.cell? ⟨w.heap.size, 0, none⟩ = some (.int .i64 f.kind) := hc1 0 _ rfl
  have b1 : W.cell? ⟨w.heap.size, 1, none⟩ = some (.string (B f.name)) := hc1 1 _ rfl
  have b2 : W.cell? ⟨w.heap.size, 2, none⟩ = some (.string (B f.value)) := hc1 2 _ rfl
  have b3 : W.cell? ⟨w.heap.size, 3, none⟩ = some (.slice Ap f.parts.length cp) := hc1 3 _ rfl
  have b4 : W.cell? ⟨w.heap.size, 4, none⟩ = some (.slice Ak f.kids.length ck) := hc1 4 _ rfl
  have B2 : Box5 W (w.heap.size + 1) (.int .i64 0) (.string ⟨#[]⟩) (.string ⟨#[]⟩) (.slice none 0 0) (.slice none 0 0) := ⟨hc2 0 _ rfl, hc2 1 _ rfl, hc2 2 _ rfl, hc2 3 _ rfl, hc2 4 _ rfl, hf2, by omega⟩
  have hlo : w.heap.size + 2 ≤ W.heap.size := by omega
  clear hc1 hc2 hf1 hf2 hszW
  go_wp2_with fail
  refine (kC W hbW).mono ?_
  rintro e w1 ⟨rfl, hb1⟩
  replace b0 := cell_later hb1 b0
  replace b1 := cell_later hb1 b1
  replace b2 := cell_later hb1 b2
  replace b3 := cell_later hb1 b3
  replace b4 := cell_later hb1 b4
  replace B2 := B2.later hb1
  replace hlo : w.heap.size + 2 ≤ w1.heap.size := Nat.le_trans hlo hb1.size
  have hbw1 := hbW.trans (hb1.mono hbW.size)
  clear kC hb1 hbW
  go_wp2_with fail
  refine (kL w1 hbw1).mono ?_
  rintro e w3 ⟨r3, rfl, hn3, hb3⟩
  obtain ⟨A3, k3, A4, k4, hr3⟩ := hn3.shape
  subst hr3
  have hfin := (hn3.sub (Y := fun k => k < w.heap.size + 2) (fun j _ hj => by omega)).deep (show d ≤ d + 1 by omega)
  replace B2 := B2.later hb3
  have hb := hbw1.trans (hb3.mono hbw1.size)
  clear kL b0 b1 b2 b3 b4 hn3
  obtain ⟨z0, z1, z2, z3, z4, zf, zl⟩ := B2
  have g0 := zf 0
  have g1 := zf 1
  have g2 := zf 2
  have g3 := zf 3
  have g4 := zf 4
  clear zf
  go_wp2_with fail
  rw [HF.out]
  exact bodyPost_ret (v := .agg #[.int .i64 f.kind, .string (B f.name), .string (B f.value), .slice A3 f.parts.length k3, .slice A4 f.kids.length k4]) (by simp [results, Tryz.results28, go_sem, z0, z1, z2, z3, z4, g0, g1, g2, g3, g4]) rfl ⟨_, rfl, (hfin.on (Agr.but (put5 (w.heap.size + 1) _ _ _ _ _ _) (by omega))).sub (fun j _ hj => by omega), hb.trans ((put5 (w.heap.size + 1) _ _ _ _ _ _).below (by omega) hb.size)⟩
 have hne := kZ hec
 replace kS := kS hne
 have hsm2 := hsm hne
 have hI : (ec != 0) = false := by simpa using hec
 have HR2 : Hid (R = if fCheck (fMov false f) != 0 then f else fMov false f) := by show _ = _; rw [HR.out, hI]; rfl
 clear HR kZ hsm hec hne
 generalize fMov false f = g at *
 go_enter Tryz.func28, Tryz.ntmps28
 go_upto_region 1 with fail
 with_reducible refine gen2g (R := fun W => Code.wp Tryz.prog _ _ _ W) ?_
 intro W hbW hszW hc1 hc2 hf1 hf2
 have b0 : W.cell? ⟨w.heap.size, 0, none⟩ = some (.int .i64 f.kind) := hc1 0 _ rfl
 have b1 : W.cell? ⟨w.heap.size, 1, none⟩ = some (.string (B f.name)) := hc1 1 _ rfl
 have b2 : W.cell? ⟨w.heap.size, 2, none⟩ = some (.string (B f.value)) := hc1 2 _ rfl
 have b3 : W.cell? ⟨w.heap.size, 3, none⟩ = some (.slice Ap f.parts.length cp) := hc1 3 _ rfl
 have b4 : W.cell? ⟨w.heap.size, 4, none⟩ = some (.slice Ak f.kids.length ck) := hc1 4 _ rfl
 have B2 : Box5 W (w.heap.size + 1) (.int .i64 0) (.string ⟨#[]⟩) (.string ⟨#[]⟩) (.slice none 0 0) (.slice none 0 0) := ⟨hc2 0 _ rfl, hc2 1 _ rfl, hc2 2 _ rfl, hc2 3 _ rfl, hc2 4 _ rfl, hf2, by omega⟩
 have hlo : w.heap.size + 2 ≤ W.heap.size := by omega
 clear hc1 hc2 hf1 hf2 hszW
 go_wp2_with fail
 refine (kC W hbW).mono ?_
 rintro e w1 ⟨rfl, hb1⟩
 replace b0 := cell_later hb1 b0
 replace b1 := cell_later hb1 b1
 replace b2 := cell_later hb1 b2
 replace b3 := cell_later hb1 b3
 replace b4 := cell_later hb1 b4
 replace B2 := B2.later hb1
 replace hlo : w.heap.size + 2 ≤ w1.heap.size := Nat.le_trans hlo hb1.size
 have hbw1 := hbW.trans (hb1.mono hbW.size)
 clear kC hb1 hbW
 go_wp2_with fail
 refine (kS w1 hbw1).mono ?_
 rintro e w2 ⟨r2, rfl, hn2, hb2⟩
 obtain ⟨A3, k3, A4, k4, hr2⟩ := hn2.shape
 subst hr2
 go_upto_region 4 with fail
 with_reducible refine gen1 (R := fun W => Code.wp Tryz.prog _ _ _ W) ?_
 intro W3 hbW3 hszW3 hc3 _
 have y0 : W3.cell? ⟨w2.heap.size, 0, none⟩ = some (.int .i64 g.kind) := hc3 0 _ rfl
 have y1 : W3.cell? ⟨w2.heap.size, 1, none⟩ = some (.string (B g.name)) := hc3 1 _ rfl
 have y2 : W3.cell? ⟨w2.heap.size, 2, none⟩ = some (.string (B g.value)) := hc3 2 _ rfl
 have y3 : W3.cell? ⟨w2.heap.size, 3, none⟩ = some (.slice A3 g.parts.length k3) := hc3 3 _ rfl
 have y4 : W3.cell? ⟨w2.heap.size, 4, none⟩ = some (.slice A4 g.kids.length k4) := hc3 4 _ rfl
 have hb23 := hb2.trans (hbW3.mono hb2.size)
 replace b0 := cell_later hb23 b0
 replace b1 := cell_later hb23 b1
 replace b2 := cell_later hb23 b2
 replace b3 := cell_later hb23 b3
 replace b4 := cell_later hb23 b4
 replace B2 := B2.later hb23
 replace hbw1 : Below w.heap.size w W3 := hbw1.trans (hb23.mono hbw1.size)
 have hn3 := (hn2.sub (Y := fun k => k < w.heap.size + 2) (fun j _ hj => by omega)).on (Agr.later hbW3)
 have hG := fCheck_any (d + 1) _ g W3 hn3.now hsm2
 replace hlo : w.heap.size + 2 ≤ W3.heap.size := by have := hb23.size; omega
 clear hc3 hszW3 hbW3 hb2 hb23 hn2 kS hsm2
 generalize fCheck g = ge at *
 by_cases hge : ge = 0
 case neg =>
  have hJ : (ge != 0) = true := by simpa using hge
  have HF : Hid (R = f) := by show _ = _; rw [HR2.out, hJ]; rfl
  clear HR2 hge hn3
  go_wp2_with fail
  refine hG.mono ?_
  rintro e w4 ⟨rfl, hb4⟩
  replace b0 := cell_later hb4 b0
  replace b1 := cell_later hb4 b1
  replace b2 := cell_later hb4 b2
  replace b3 := cell_later hb4 b3
  replace b4 := cell_later hb4 b4
  replace B2 := B2.later hb4
  replace hlo : w.heap.size + 2 ≤ w4.heap.size := Nat.le_trans hlo hb4.size
  replace hbw1 : Below w.heap.size w w4 := hbw1.trans (hb4.mono hbw1.size)
  clear hG y0 y1 y2 y3 y4 hb4
  go_wp2_with fail
  refine (kL w4 hbw1).mono ?_
  rintro e w3 ⟨r9, rfl, hn3, hb3⟩
  obtain ⟨A9, k9, A8, k8, hr9⟩ := hn3.shape
  subst hr9
  have hfin := (hn3.sub (Y := fun k => k < w.heap.size + 2) (fun j _ hj => by omega)).deep (show d ≤ d + 1 by omega)
  replace B2 := B2.later hb3
  have hb := hbw1.trans (hb3.mono hbw1.size)
  clear kL b0 b1 b2 b3 b4 hn3
  obtain ⟨z0, z1, z2, z3, z4, zf, zl⟩ := B2
  have g0 := zf 0
  have g1 := zf 1
  have g2 := zf 2
  have g3 := zf 3
  have g4 := zf 4
  clear zf
  go_wp2_with fail
  rw [HF.out]
  exact bodyPost_ret (v := .agg #[.int .i64 f.kind, .string (B f.name), .string (B f.value), .slice A9 f.parts.length k9, .slice A8 f.kids.length k8]) (by simp [results, Tryz.results28, go_sem, z0, z1, z2, z3, z4, g0, g1, g2, g3, g4]) rfl ⟨_, rfl, (hfin.on (Agr.but (put5 (w.heap.size + 1) _ _ _ _ _ _) (by omega))).sub (fun j _ hj => by omega), hb.trans ((put5 (w.heap.size + 1) _ _ _ _ _ _).below (by omega) hb.size)⟩
 have hJ : (ge != 0) = false := by simpa using hge
 have HF : Hid (R = g) := by show _ = _; rw [HR2.out, hJ]; rfl
 clear HR2 hge kL b0 b1 b2 b3 b4
 go_wp2_with fail
 refine hG.mono ?_
 rintro e w4 ⟨rfl, hb4⟩
 replace y0 := cell_later hb4 y0
 replace y1 := cell_later hb4 y1
 replace y2 := cell_later hb4 y2
 replace y3 := cell_later hb4 y3
 replace y4 := cell_later hb4 y4
 replace B2 := B2.later hb4
 have hfin := hn3.on (Agr.later hb4)
 have hb : Below w.heap.size w w4 := hbw1.trans (hb4.mono hbw1.size)
 clear hG hn3 hb4 hbw1
 obtain ⟨z0, z1, z2, z3, z4, zf, zl⟩ := B2
 have g0 := zf 0
 have g1 := zf 1
 have g2 := zf 2
 have g3 := zf 3
 have g4 := zf 4
 clear zf
 go_wp2_with fail
 rw [HF.out]
 exact bodyPost_ret (v := .agg #[.int .i64 g.kind, .string (B g.name), .string (B g.value), .slice A3 g.parts.length k3, .slice A4 g.kids.length k4]) (by simp [results, Tryz.results28, go_sem, z0, z1, z2, z3, z4, g0, g1, g2, g3, g4]) rfl ⟨_, rfl, (hfin.on (Agr.but (put5 (w.heap.size + 1) _ _ _ _ _ _) (by omega))).sub (fun j _ hj => by omega), hb.trans ((put5 (w.heap.size + 1) _ _ _ _ _ _).below (by omega) hb.size)⟩
theorem flt_ext {f g : Flt} : f = g ↔ f.kind = g.kind ∧ f.name = g.name ∧ f.value = g.value ∧ f.parts = g.parts ∧ f.kids = g.kids := by
 cases f; cases g; simp [Flt.kind, Flt.name, Flt.value, Flt.parts, Flt.kids]
theorem bool_of (p : Prop) : ∃ b : Bool, b = true ↔ p := by
 by_cases h : p
 ·exact ⟨true, iff_of_true rfl h⟩
 ·exact ⟨false, iff_of_false nofun h⟩
theorem eqFK_any (d d' : Nat) (v u : Value) (l m : List Flt) (r : Bool) (hr : r = true ↔ l = m) (w : World) (hv : FltsV w w.heap.size d v l) (hu : FltsV w w.heap.size d' u m) (hl : l.length ≤ 1000) (hm : m.length ≤ 1000)
  (hp : ∀ (W : World) (a b : Value) (f g : Flt) (r : Bool), f ∈ l → g ∈ m → Below w.heap.size w W → 0 < d → FltV W W.heap.size (d - 1) a f → FltV W W.heap.size (d' - 1) b g → (r = true ↔ f = g) → Calls Tryz.prog 27 #[a, b] W fun e w' => e = .returned (.bool r) ∧ Below W.heap.size W w') :
  Calls Tryz.prog 53 #[v, u, .func (.func 27) #[] #[]] w fun e w' => e = .returned (.bool r) ∧ Below w.heap.size w w' := by
 obtain ⟨A, c, rfl, hc⟩ := SlV.shape hv
 obtain ⟨A2, c2, rfl, hc2⟩ := SlV.shape hu
 go_enter Tryz.func53, Tryz.ntmps53
 by_cases h0 : l.length = m.length
 ·have h0I : ((l.length : Int) != (m.length : Int)) = false := by rw [h0]; simp
  have H0 := Lib.hid h0
  have HRR := Lib.hid hr
  clear h0 hr
  go_wp2_with fail
  go_loopw [17] (fun i wr => ∃ (k : Nat), k ≤ l.length ∧ i = .int .i64 k ∧ Below w.heap.size w wr ∧ Hid (l.take k = m.take k)) (fun i _ => l.length - (intOf i).toNat)
  case atStart => exact ⟨0, Nat.zero_le _, rfl, Below.refl _ _, rfl⟩
  case round =>
   obtain ⟨k, hk, rfl, hb, hinv⟩ := hrel
   obtain ⟨wo, hwo⟩ : ∃ wo : World, wo = wr := ⟨_, rfl⟩
   subst hwo
   by_cases hlt : k < l.length
   ·have h0' : k < m.length := by have := H0.out; omega
    obtain ⟨b1, o1, Ap, cp, Ak, ck, hA, hb1, d0, d1, d2, d3, d4, hd, hk1⟩ := FltsV.kid2 (FltsV.keep hv hb) hlt
    obtain ⟨b2, o2, Ap', cp', Ak', ck', hA2, hb2, e0, e1, e2, e3, e4, hd', hk2⟩ := FltsV.kid2 (FltsV.keep hu hb) h0'
    subst hA hA2
    have hltI : (k : Int) < (l.length : Int) := by omega
    have hltJ : (k : Int) < (m.length : Int) := by omega
    obtain ⟨bb, hbb⟩ := bool_of (l[k] = m[k]'h0')
    have hC := fun (W : World) (hW : Below wo.heap.size wo W) => hp W _ _ l[k] (m[k]'h0') bb (List.getElem_mem _) (List.getElem_mem _) (hb.trans (hW.mono hb.size)) hd (FltV.on (FltV.mono hk1 hb.size) hW) (FltV.on (FltV.mono hk2 hb.size) hW) hbb
    have hfl : bb = false → l ≠ m := fun h e => by
     subst e
     rw [hbb.2 rfl] at h; cases h
    have htr : bb = true → Hid (l.take (k + 1) = m.take (k + 1)) := fun h => by
     show _ = _
     rw [List.take_succ_eq_append_getElem hlt, List.take_succ_eq_append_getElem h0', hinv.out, hbb.1 h]
    clear hinv hp hk1 hk2 hbb
    generalize l[k].kind = n1 at *
    generalize l[k].name = n2 at *
    generalize l[k].value = n3 at *
    generalize l[k].parts.length = n4 at *
    generalize l[k].kids.length = n5 at *
    generalize (m[k]'h0').kind = m1 at *
    generalize (m[k]'h0').name = m2 at *
    generalize (m[k]'h0').value = m3 at *
    generalize (m[k]'h0').parts.length = m4 at *
    generalize (m[k]'h0').kids.length = m5 at *
    go_upto_region 6 with fail
    with_reducible refine gen1 (R := fun W => Code.wp Tryz.prog _ _ _ W) ?_
    intro W6 hbW6 hszW6 hc6 _
    have x0 : W6.cell? ⟨wo.heap.size, 0, none⟩ = some (.int .i64 n1) := hc6 0 _ rfl
    have x1 : W6.cell? ⟨wo.heap.size, 1, none⟩ = some (.string (B n2)) := hc6 1 _ rfl
    have x2 : W6.cell? ⟨wo.heap.size, 2, none⟩ = some (.string (B n3)) := hc6 2 _ rfl
    have x3 : W6.cell? ⟨wo.heap.size, 3, none⟩ = some (.slice Ap n4 cp) := hc6 3 _ rfl
    have x4 : W6.cell? ⟨wo.heap.size, 4, none⟩ = some (.slice Ak n5 ck) := hc6 4 _ rfl
    replace e0 := cell_later hbW6 e0
    replace e1 := cell_later hbW6 e1
    replace e2 := cell_later hbW6 e2
    replace e3 := cell_later hbW6 e3
    replace e4 := cell_later hbW6 e4
    clear hc6 d0 d1 d2 d3 d4 hszW6
    go_upto_region 7 with fail
    with_reducible refine gen1 (R := fun W => Code.wp Tryz.prog _ _ _ W) ?_
    intro W7 hbW7 hszW7 hc7 _
    have y0 : W7.cell? ⟨W6.heap.size, 0, none⟩ = some (.int .i64 m1) := hc7 0 _ rfl
    have y1 : W7.cell? ⟨W6.heap.size, 1, none⟩ = some (.string (B m2)) := hc7 1 _ rfl
    have y2 : W7.cell? ⟨W6.heap.size, 2, none⟩ = some (.string (B m3)) := hc7 2 _ rfl
    have y3 : W7.cell? ⟨W6.heap.size, 3, none⟩ = some (.slice Ap' m4 cp') := hc7 3 _ rfl
    have y4 : W7.cell? ⟨W6.heap.size, 4, none⟩ = some (.slice Ak' m5 ck') := hc7 4 _ rfl
    replace x0 := cell_later hbW7 x0
    replace x1 := cell_later hbW7 x1
    replace x2 := cell_later hbW7 x2
    replace x3 := cell_later hbW7 x3
    replace x4 := cell_later hbW7 x4
    have hB2 : Below wo.heap.size wo W7 := hbW6.trans (hbW7.mono hbW6.size)
    have hC7 := hC W7 hB2
    clear hc7 e0 e1 e2 e3 e4 hszW7 hbW6 hbW7 hC
    go_wp2_with fail
    refine hC7.mono ?_
    rintro e w2 ⟨rfl, hb7⟩
    replace hb7 := (hb.trans (hB2.mono hb.size)).trans (hb7.mono (hb.trans (hB2.mono hb.size)).size)
    clear hC7 x0 x1 x2 x3 x4 y0 y1 y2 y3 y4
    cases bb
    ·have HN := Lib.hid (no_true HRR.out (hfl rfl))
     clear hfl htr
     go_wp2_with fail
     go_ret
     exact ⟨ret_bool HN.out.symm, hb7⟩
    ·have HF := htr rfl
     clear hfl htr
     go_wp2_with fail
     go_roundw
     case rel => exact ⟨k + 1, by omega, by go_num, hb7, HF⟩
     case measure => simp [intOf]; omega
   ·have hltI : ¬ (k : Int) < (l.length : Int) := by omega
    have hltJ : ¬ (k : Int) < (m.length : Int) := by have := H0.out; omega
    have HF : Hid (r = true) := HRR.out.2 (by
     have h1 := hinv.out
     have h2 := H0.out
     rwa [List.take_of_length_le (by omega), List.take_of_length_le (by omega)] at h1)
    clear hinv
    go_wp2_with fail
    go_ret
    exact ⟨ret_bool HF.out.symm, hb⟩
 ·have h0I : ((l.length : Int) != (m.length : Int)) = true := by rw [bne_iff_ne]; omega
  have HF := Lib.hid (no_true hr fun h => h0 (by rw [h]))
  go_wp2_with fail
  go_ret
  exact ⟨ret_bool HF.out.symm, Below.refl _ _⟩
theorem b_ne {a b : Bs} (h : a ≠ b) : ((B a).toList == (B b).toList) = false := by
 rw [toList_L, toList_L, Idn.L_B, Idn.L_B]; exact beq_eq_false_iff_ne.2 h
theorem fEqual_any : ∀ (d d' : Nat) (v u : Value) (f g : Flt) (r : Bool) (w : World), FltV w w.heap.size d v f → FltV w w.heap.size d' u g → FSm 1000 f → FSm 1000 g → (r = true ↔ f = g) →
  Calls Tryz.prog 27 #[v, u] w fun e w' => e = .returned (.bool r) ∧ Below w.heap.size w w' := by
 intro d
 induction d using Nat.strongRecOn with
 | _ d ih =>
 intro d' v u f g r w hv hu hs ht hr
 obtain ⟨Ap, cp, Ak, ck, rfl, hp, hk⟩ := hv.shape
 obtain ⟨Aq, cq, Al, cl, rfl, hq, hl⟩ := hu.shape
 have o3 := (fOk_own hs.2).2.2.1
 have q3 := (fOk_own ht.2).2.2.1
 have hE1 := fun W (hW : Below w.heap.size w W) => equalS_any _ _ f.parts g.parts W _ _ (SlV.keep hp hW) (SlV.keep hq hW) (by omega) (by omega)
 have hE2 := fun (b : Bool) (hb : b = true ↔ f.kids = g.kids) W (hW : Below w.heap.size w W) => eqFK_any d d' _ _ f.kids g.kids b hb W (FltsV.on hk hW) (FltsV.on hl hW) hs.kids.len ht.kids.len fun W' a b x y r' hx hy _ h0 h1 h2 h3 => ih (d - 1) (by omega) (d' - 1) a b x y r' W' h1 h2 (hs.kids.mem hx) (ht.kids.mem hy) h3
 have HR : Hid (r = true ↔ f.kind = g.kind ∧ f.name = g.name ∧ f.value = g.value ∧ f.parts = g.parts ∧ f.kids = g.kids) := hr.trans flt_ext
 obtain ⟨kb, hkb⟩ := bool_of (f.kids = g.kids)
 replace hE2 := hE2 kb hkb
 clear ih hp hq hk hl hv hu hr o3 q3
 have HKB := Lib.hid hkb
 clear hkb
 generalize f.kind = fk at *
 generalize g.kind = gk at *
 generalize f.name = fn at *
 generalize g.name = gn at *
 generalize f.value = fv at *
 generalize g.value = gv at *
 by_cases h1 : fk = gk
 case neg =>
  have t1 : (fk == gk) = false := beq_eq_false_iff_ne.2 h1
  have HF := Lib.hid (no_true HR.out fun h => h1 h.1)
  clear h1
  clear HR hE1 hE2
  go_enter Tryz.func27, Tryz.ntmps27
  go_upto_region 1 with fail
  with_reducible refine gen2 (R := fun W => Code.wp Tryz.prog _ _ _ W) ?_
  intro W hbW hszW hc1 hc2
  have x0 : W.cell? ⟨w.heap.size, 0, none⟩ = some (.int .i64 fk) := hc1 0 _ rfl
  have x1 : W.cell? ⟨w.heap.size, 1, none⟩ = some (.string (B fn)) := hc1 1 _ rfl
  have x2 : W.cell? ⟨w.heap.size, 2, none⟩ = some (.string (B fv)) := hc1 2 _ rfl
  have x3 : W.cell? ⟨w.heap.size, 3, none⟩ = some (.slice Ap f.parts.length cp) := hc1 3 _ rfl
  have x4 : W.cell? ⟨w.heap.size, 4, none⟩ = some (.slice Ak f.kids.length ck) := hc1 4 _ rfl
  have y0 : W.cell? ⟨w.heap.size + 1, 0, none⟩ = some (.int .i64 gk) := hc2 0 _ rfl
  have y1 : W.cell? ⟨w.heap.size + 1, 1, none⟩ = some (.string (B gn)) := hc2 1 _ rfl
  have y2 : W.cell? ⟨w.heap.size + 1, 2, none⟩ = some (.string (B gv)) := hc2 2 _ rfl
  have y3 : W.cell? ⟨w.heap.size + 1, 3, none⟩ = some (.slice Aq g.parts.length cq) := hc2 3 _ rfl
  have y4 : W.cell? ⟨w.heap.size + 1, 4, none⟩ = some (.slice Al g.kids.length cl) := hc2 4 _ rfl
  clear hc1 hc2 hszW
  go_wp2_with fail
  go_ret
  exact ⟨ret_bool HF.out.symm, hbW⟩
 subst h1
 by_cases h2 : fn = gn
 case neg =>
  have t2 := b_ne h2
  have HF := Lib.hid (no_true HR.out fun h => h2 h.2.1)
  clear h2
  clear HR hE1 hE2
  go_enter Tryz.func27, Tryz.ntmps27
  go_upto_region 1 with fail
  with_reducible refine gen2 (R := fun W => Code.wp Tryz.prog _ _ _ W) ?_
  intro W hbW hszW hc1 hc2
  have x0 : W.cell? ⟨w.heap.size, 0, none⟩ = some (.int .i64 fk) := hc1 0 _ rfl
  have x1 : W.cell? ⟨w.heap.size, 1, none⟩ = some (.string (B fn)) := hc1 1 _ rfl
  have x2 : W.cell? ⟨w.heap.size, 2, none⟩ = some (.string (B fv)) := hc1 2 _ rfl
  have x3 : W.cell? ⟨w.heap.size, 3, none⟩ = some (.slice Ap f.parts.length cp) := hc1 3 _ rfl
  have x4 : W.cell? ⟨w.heap.size, 4, none⟩ = some (.slice Ak f.kids.length ck) := hc1 4 _ rfl
  have y0 : W.cell? ⟨w.heap.size + 1, 0, none⟩ = some (.int .i64 fk) := hc2 0 _ rfl
  have y1 : W.cell? ⟨w.heap.size + 1, 1, none⟩ = some (.string (B gn)) := hc2 1 _ rfl
  have y2 : W.cell? ⟨w.heap.size + 1, 2, none⟩ = some (.string (B gv)) := hc2 2 _ rfl
  have y3 : W.cell? ⟨w.heap.size + 1, 3, none⟩ = some (.slice Aq g.parts.length cq) := hc2 3 _ rfl
  have y4 : W.cell? ⟨w.heap.size + 1, 4, none⟩ = some (.slice Al g.kids.length cl) := hc2 4 _ rfl
  clear hc1 hc2 hszW
  go_wp2_with fail
  go_ret
  exact ⟨ret_bool HF.out.symm, hbW⟩
 subst h2
 by_cases h3 : fv = gv
 case neg =>
  have t3 := b_ne h3
  have HF := Lib.hid (no_true HR.out fun h => h3 h.2.2.1)
  clear h3
  clear HR hE1 hE2
  go_enter Tryz.func27, Tryz.ntmps27
  go_upto_region 1 with fail
  with_reducible refine gen2 (R := fun W => Code.wp Tryz.prog _ _ _ W) ?_
  intro W hbW hszW hc1 hc2
  have x0 : W.cell? ⟨w.heap.size, 0, none⟩ = some (.int .i64 fk) := hc1 0 _ rfl
  have x1 : W.cell? ⟨w.heap.size, 1, none⟩ = some (.string (B fn)) := hc1 1 _ rfl
  have x2 : W.cell? ⟨w.heap.size, 2, none⟩ = some (.string (B fv)) := hc1 2 _ rfl
  have x3 : W.cell? ⟨w.heap.size, 3, none⟩ = some (.slice Ap f.parts.length cp) := hc1 3 _ rfl
  have x4 : W.cell? ⟨w.heap.size, 4, none⟩ = some (.slice Ak f.kids.length ck) := hc1 4 _ rfl
  have y0 : W.cell? ⟨w.heap.size + 1, 0, none⟩ = some (.int .i64 fk) := hc2 0 _ rfl
  have y1 : W.cell? ⟨w.heap.size + 1, 1, none⟩ = some (.string (B fn)) := hc2 1 _ rfl
  have y2 : W.cell? ⟨w.heap.size + 1, 2, none⟩ = some (.string (B gv)) := hc2 2 _ rfl
  have y3 : W.cell? ⟨w.heap.size + 1, 3, none⟩ = some (.slice Aq g.parts.length cq) := hc2 3 _ rfl
  have y4 : W.cell? ⟨w.heap.size + 1, 4, none⟩ = some (.slice Al g.kids.length cl) := hc2 4 _ rfl
  clear hc1 hc2 hszW
  go_wp2_with fail
  go_ret
  exact ⟨ret_bool HF.out.symm, hbW⟩
 subst h3
 by_cases h4 : f.parts = g.parts
 case neg =>
  have t4 : (f.parts == g.parts) = false := beq_eq_false_iff_ne.2 h4
  have HF := Lib.hid (no_true HR.out fun h => h4 h.2.2.2.1)
  rw [t4] at hE1
  clear h4 HR hE2
  go_enter Tryz.func27, Tryz.ntmps27
  go_upto_region 1 with fail
  with_reducible refine gen2 (R := fun W => Code.wp Tryz.prog _ _ _ W) ?_
  intro W hbW hszW hc1 hc2
  have x0 : W.cell? ⟨w.heap.size, 0, none⟩ = some (.int .i64 fk) := hc1 0 _ rfl
  have x1 : W.cell? ⟨w.heap.size, 1, none⟩ = some (.string (B fn)) := hc1 1 _ rfl
  have x2 : W.cell? ⟨w.heap.size, 2, none⟩ = some (.string (B fv)) := hc1 2 _ rfl
  have x3 : W.cell? ⟨w.heap.size, 3, none⟩ = some (.slice Ap f.parts.length cp) := hc1 3 _ rfl
  have x4 : W.cell? ⟨w.heap.size, 4, none⟩ = some (.slice Ak f.kids.length ck) := hc1 4 _ rfl
  have y0 : W.cell? ⟨w.heap.size + 1, 0, none⟩ = some (.int .i64 fk) := hc2 0 _ rfl
  have y1 : W.cell? ⟨w.heap.size + 1, 1, none⟩ = some (.string (B fn)) := hc2 1 _ rfl
  have y2 : W.cell? ⟨w.heap.size + 1, 2, none⟩ = some (.string (B fv)) := hc2 2 _ rfl
  have y3 : W.cell? ⟨w.heap.size + 1, 3, none⟩ = some (.slice Aq g.parts.length cq) := hc2 3 _ rfl
  have y4 : W.cell? ⟨w.heap.size + 1, 4, none⟩ = some (.slice Al g.kids.length cl) := hc2 4 _ rfl
  clear hc1 hc2 hszW
  go_wp2_with fail
  refine (hE1 W hbW).mono ?_
  rintro e w2 ⟨rfl, q, rfl⟩
  go_wp2_with fail
  go_ret
  exact ⟨ret_bool HF.out.symm, hbW.trans ((below_drew0 W q).mono hbW.size)⟩
 have t4 : (f.parts == g.parts) = true := beq_iff_eq.2 h4
 have HF : Hid (r = kb) := by
  have h1 := HR.out
  have h2 := HKB.out
  show _ = _
  rw [Bool.eq_iff_iff, h1, h2]
  exact ⟨fun h => h.2.2.2.2, fun h => ⟨rfl, rfl, rfl, h4, h⟩⟩
 rw [t4] at hE1
 clear h4 HR HKB
 go_enter Tryz.func27, Tryz.ntmps27
 go_upto_region 1 with fail
 with_reducible refine gen2 (R := fun W => Code.wp Tryz.prog _ _ _ W) ?_
 intro W hbW hszW hc1 hc2
 have x0 : W.cell? ⟨w.heap.size, 0, none⟩ = some (.int .i64 fk) := hc1 0 _ rfl
 have x1 : W.cell? ⟨w.heap.size, 1, none⟩ = some (.string (B fn)) := hc1 1 _ rfl
 have x2 : W.cell? ⟨w.heap.size, 2, none⟩ = some (.string (B fv)) := hc1 2 _ rfl
 have x3 : W.cell? ⟨w.heap.size, 3, none⟩ = some (.slice Ap f.parts.length cp) := hc1 3 _ rfl
 have x4 : W.cell? ⟨w.heap.size, 4, none⟩ = some (.slice Ak f.kids.length ck) := hc1 4 _ rfl
 have y0 : W.cell? ⟨w.heap.size + 1, 0, none⟩ = some (.int .i64 fk) := hc2 0 _ rfl
 have y1 : W.cell? ⟨w.heap.size + 1, 1, none⟩ = some (.string (B fn)) := hc2 1 _ rfl
 have y2 : W.cell? ⟨w.heap.size + 1, 2, none⟩ = some (.string (B fv)) := hc2 2 _ rfl
 have y3 : W.cell? ⟨w.heap.size + 1, 3, none⟩ = some (.slice Aq g.parts.length cq) := hc2 3 _ rfl
 have y4 : W.cell? ⟨w.heap.size + 1, 4, none⟩ = some (.slice Al g.kids.length cl) := hc2 4 _ rfl
 clear hc1 hc2 hszW
 go_wp2_with fail
 refine (hE1 W hbW).mono ?_
 rintro e w2 ⟨rfl, q, rfl⟩
 have hb2 := below_drew0 W q
 generalize W.drewN q = w2 at *
 replace x4 := cell_later hb2 x4
 replace y4 := cell_later hb2 y4
 replace hb2 := hbW.trans (hb2.mono hbW.size)
 have hE := hE2 w2 hb2
 clear hE1 hE2 x0 x1 x2 x3 y0 y1 y2 y3
 go_wp2_with fail
 refine hE.mono ?_
 rintro e w3 ⟨rfl, hb3⟩
 go_wp2_with fail
 go_ret
 exact ⟨ret_bool HF.out.symm, hb2.trans (hb3.mono hb2.size)⟩
end Go.Proofs.YtmamnmjfbadiiaaGreatDoor
