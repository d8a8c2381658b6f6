/- Part 52 of the proof that the statements of identitylaw09 on matching hold at all arguments: the package variables hold what the program lays; nothing else is asked. -/
import Derived.Test.YtmamnmjfbadiiaaGreatDoorFz41
set_option linter.unusedVariables false
set_option linter.unusedSimpArgs false
set_option maxRecDepth 100000
set_option maxHeartbeats 16000000
/- identityref09: moved, Simplify. -/
namespace Go.Proofs.YtmamnmjfbadiiaaGreatDoor
open Go.RowKit Go.Sort
open Idn (L B Bs drop_L take_L size_L)
def RetM (lo : Nat) (w : World) (d : Nat) (f : Flt) (e : Ending) (w' : World) : Prop := ∃ r, e = .returned r ∧ FltN (fun k => lo ≤ k ∧ k < w.heap.size) w' d r f ∧ Below w.heap.size w w'
theorem sub_lt {lo a b : Nat} (h : a ≤ b) (j : Nat) (hj : lo ≤ j ∧ j < a) : lo ≤ j ∧ j < b := ⟨hj.1, Nat.lt_of_lt_of_le hj.2 h⟩
theorem mov_cases9 (f : Flt) (h : nodeErr f = 0) (b : Bool) :
    (f.kind = 3 ∧ ∃ g, f.kids = [g] ∧ nodeErr g = 0 ∧ fMov b f = fMov (!b) g) ∨
    ((f.kind = 1 ∨ f.kind = 2) ∧ isCmp f.kind = false ∧ (∀ g ∈ f.kids, nodeErr g = 0) ∧ fMov b f = .mk (if b then 3 - f.kind else f.kind) [] [] [] (f.kids.map (fMov b))) ∨
    ((f.kind == 3) = false ∧ isCmp f.kind = true ∧ fMov b f = if b then notF f else f) := by
  cases f with
  | mk k n v ps ks =>
    obtain ⟨h1, h2⟩ := nodeErr_zero.1 h
    have hf := ownErr_form h1
    obtain ⟨k1, k8⟩ := form_kind hf
    rcases kind_cases k1 k8 with rfl | hc | ⟨hk, hc⟩
    · obtain ⟨_, _, _, e4⟩ := form_not hf
      obtain ⟨g, rfl⟩ := one_kid e4
      exact .inl ⟨rfl, g, rfl, h2 g List.mem_cons_self, fMov_not b n v ps g⟩
    · obtain ⟨q1, q2, q3, _⟩ := cmp_kind hc
      exact .inr (.inr ⟨beq_eq_false_iff_ne.2 q3, hc, fMov_cmp hc b n v ps ks⟩)
    · exact .inr (.inl ⟨hk, hc, h2, fMov_set hk b n v ps ks⟩)
theorem r9_moved_any : ∀ (d : Nat) (v : Value) (f : Flt) (b : Bool) (lo : Nat) (w : World), FltV w lo d v f → lo ≤ w.heap.size → FSm 1000 f → nodeErr f = 0 → Calls Tryz.prog 56 #[v, .bool b] w (RetM lo w (d + 1) (fMov b f)) := by
  intro d
  induction d using Nat.strongRecOn with
  | _ d ih =>
  intro v f b lo w hv hl0 hs hne
  have kC := fun W => r9_comp_any f.kind W
  obtain ⟨Ap, cp, Ak, ck, rfl, hp, hk⟩ := hv.shape
  have hks := hs.kids
  have hkl := hks.len
  have hmc := mov_cases9 f hne b
  generalize fMov b f = R at *
  obtain ⟨kd, hkd⟩ : ∃ kd : Int, kd = f.kind := ⟨_, rfl⟩
  rw [← hkd] at hmc kC ⊢
  clear hp hne
  rcases hmc with ⟨rfl, g, hkg, hg0, rfl⟩ | ⟨hk12, hcmp, hkz, rfl⟩ | ⟨e3, hcmp, rfl⟩
  · obtain ⟨gb, off, Ap', cp', Ak', ck', hA, hgl, c0, c1, c2, c3, c4, hd, hkid⟩ := FltsV.kid2 hk (k := 0) (by rw [hkg]; exact Nat.one_pos)
    have hg : f.kids[0]'(by rw [hkg]; exact Nat.one_pos) = g := by simp [hkg]
    rw [hg] at c0 c1 c2 c3 c4 hkid
    simp only [Nat.zero_mul, Nat.add_zero] at c0 c1 c2 c3 c4
    subst hA
    have hl1 : f.kids.length = 1 := by rw [hkg]; rfl
    have hmg : FSm 1000 g := hks.mem (by rw [hkg]; exact List.mem_cons_self)
    rw [hl1] at hk ⊢
    clear hkg hg hl1 hk hkl hks hv kC hkd
    go_enter Tryz.func56, Tryz.ntmps56
    go_upto_region 1 with fail
    with_reducible refine gen2g (R := fun W => Code.wp Tryz.prog _ _ _ W) ?_
    intro W hbW hszW hc1 hc2 hf1 hf2
    have b0 : W.cell? ⟨w.heap.size, 0, none⟩ = some (.int .i64 3) := hc1 0 _ rfl
    have b1 : W.cell? ⟨w.heap.size, 1, none⟩ = some (.string (B f.name)) := hc1 1 _ rfl
    have b2 : W.cell? ⟨w.heap.size, 2, none⟩ = some (.string (B f.value)) := hc1 2 _ rfl
    have b3 : W.cell? ⟨w.heap.size, 3, none⟩ = some (.slice Ap f.parts.length cp) := hc1 3 _ rfl
    have b4 : W.cell? ⟨w.heap.size, 4, none⟩ = some (.slice (some ⟨gb, off, none⟩) 1 ck) := hc1 4 _ rfl
    have B2 : Box5 W (w.heap.size + 1) (.int .i64 0) (.string ⟨#[]⟩) (.string ⟨#[]⟩) (.slice none 0 0) (.slice none 0 0) := ⟨hc2 0 _ rfl, hc2 1 _ rfl, hc2 2 _ rfl, hc2 3 _ rfl, hc2 4 _ rfl, hf2, by omega⟩
    have hlo : w.heap.size + 2 ≤ W.heap.size := by omega
    have hlW : lo ≤ W.heap.size := by omega
    have hbL : Below lo w W := hbW.mono hl0
    clear hc1 hc2 hf1 hf2 hszW
    replace c0 := cell_later hbW c0
    replace c1 := cell_later hbW c1
    replace c2 := cell_later hbW c2
    replace c3 := cell_later hbW c3
    replace c4 := cell_later hbW c4
    have hcall := ih (d - 1) (by omega) _ g (!b) lo W (FltV.keep hkid hbL) hlW hmg hg0
    clear hkid ih
    go_wp2_with fail
    refine hcall.mono ?_
    rintro e w3 ⟨r3, rfl, hn3, hb3⟩
    obtain ⟨A3, k3, A4, k4, hr3⟩ := hn3.shape
    subst hr3
    have hfin := (hn3.sub (Y := fun k => lo ≤ k ∧ k < w.heap.size + 2) (fun j _ hj => sub_lt hlo j hj)).deep (show d - 1 + 1 ≤ d + 1 by omega)
    replace B2 := B2.later hb3
    have hb := hbW.trans (hb3.mono hbW.size)
    clear hcall c0 c1 c2 c3 c4 b0 b1 b2 b3 b4 hn3
    obtain ⟨z0, z1, z2, z3, z4, zf, zl⟩ := B2
    have g0 := zf 0
    have g1 := zf 1
    have g2 := zf 2
    have g3 := zf 3
    have g4 := zf 4
    clear zf
    go_wp2_with fail
    exact bodyPost_ret (v := .agg #[.int .i64 (fMov (!b) g).kind, .string (B (fMov (!b) g).name), .string (B (fMov (!b) g).value), .slice A3 (fMov (!b) g).parts.length k3, .slice A4 (fMov (!b) g).kids.length k4]) (by simp [results, Tryz.results56, go_sem, z0, z1, z2, z3, z4, g0, g1, g2, g3, g4]) rfl ⟨_, rfl, (hfin.on (Agr.but (put5 (w.heap.size + 1) _ _ _ _ _ _) ⟨by omega, by omega⟩)).sub (fun j _ hj => sub_lt (by omega) j hj), hb.trans ((put5 (w.heap.size + 1) _ _ _ _ _ _).below (by omega) hb.size)⟩
  · have h3 : (kd == 3) = false := by rw [beq_eq_false_iff_ne]; omega
    have hwr : IntKind.i64.wrap (3 - kd) = 3 - kd := IntWalk.i64_in _ (by omega)
    have hdd : ∀ D : Nat, 0 < D → D - 1 + 1 = D := fun D h => by omega
    rw [hcmp] at kC
    clear hv hkd
    cases b
    · simp only [Bool.false_eq_true, ↓reduceIte]
      go_enter Tryz.func56, Tryz.ntmps56
      go_upto_region 1 with fail
      with_reducible refine gen2g (R := fun W => Code.wp Tryz.prog _ _ _ W) ?_
      intro W hbW hszW hc1 hc2 hf1 hf2
      have b0 : W.cell? ⟨w.heap.size, 0, none⟩ = some (.int .i64 kd) := hc1 0 _ rfl
      have b1 : W.cell? ⟨w.heap.size, 1, none⟩ = some (.string (B f.name)) := hc1 1 _ rfl
      have b2 : W.cell? ⟨w.heap.size, 2, none⟩ = some (.string (B f.value)) := hc1 2 _ rfl
      have b3 : W.cell? ⟨w.heap.size, 3, none⟩ = some (.slice Ap f.parts.length cp) := hc1 3 _ rfl
      have b4 : W.cell? ⟨w.heap.size, 4, none⟩ = some (.slice Ak f.kids.length ck) := hc1 4 _ rfl
      have B2 : Box5 W (w.heap.size + 1) (.int .i64 0) (.string ⟨#[]⟩) (.string ⟨#[]⟩) (.slice none 0 0) (.slice none 0 0) := ⟨hc2 0 _ rfl, hc2 1 _ rfl, hc2 2 _ rfl, hc2 3 _ rfl, hc2 4 _ rfl, hf2, by omega⟩
      have hlo : w.heap.size + 2 ≤ W.heap.size := by omega
      have hlW : lo ≤ W.heap.size := by omega
      have hbL : Below lo w W := hbW.mono hl0
      clear hc1 hc2 hf1 hf2 hszW
      go_wp2_with fail
      refine (kC W).mono ?_
      rintro e wd ⟨rfl, rfl⟩
      clear kC
      go_upto_region 8 with fail
      with_reducible refine gen1 (R := fun W => Code.wp Tryz.prog _ _ _ W) ?_
      intro W2 hbW2 hszW2 hcc hff
      have G : Box5 W2 W.heap.size (.int .i64 kd) (.string ⟨#[]⟩) (.string ⟨#[]⟩) (.slice none 0 0) (.slice none 0 0) := ⟨hcc 0 _ rfl, hcc 1 _ rfl, hcc 2 _ rfl, hcc 3 _ rfl, hcc 4 _ rfl, hff, by omega⟩
      replace B2 := B2.later hbW2
      replace b4 := cell_later hbW2 b4
      replace b0 := cell_later hbW2 b0
      have hlo2 : W.heap.size + 1 ≤ W2.heap.size := by omega
      have hb2 := hbW.trans (hbW2.mono hbW.size)
      clear hcc hff hszW2 b1 b2 b3 hbW2 hbL
      obtain ⟨W3, hW3⟩ : ∃ W3 : World, W3 = W2 := ⟨_, rfl⟩
      subst hW3
      clear b0
      have hl3 : lo ≤ W3.heap.size := by omega
      go_wp2_with fail
      go_loopw [6] (fun i wr => ∃ (k : Nat) (A : Option Addr) (c : Nat), k ≤ f.kids.length ∧ i = .int .i64 k ∧ Box5 wr W.heap.size (.int .i64 (kd)) (.string ⟨#[]⟩) (.string ⟨#[]⟩) (.slice none 0 0) (.slice A k c) ∧ RowF (fun j => lo ≤ j ∧ j < W3.heap.size) wr W3.heap.size (d + 1) (.slice A k c) ((f.kids.take k).map (fMov false)) ∧ But W.heap.size W3 wr) (fun i _ => f.kids.length - (intOf i).toNat)
      case atStart => exact ⟨0, none, 0, Nat.zero_le _, rfl, G, RowF.nil _ _ _ _, But.refl _ _⟩
      case round =>
        obtain ⟨k, A, c, hk9, rfl, G, hrow, hbt⟩ := hrel
        obtain ⟨W5, hW5⟩ : ∃ W5 : World, W5 = wr := ⟨_, rfl⟩
        subst hW5
        have hlk : ((f.kids.take k).map (fMov false)).length = k := by rw [List.length_map, List.length_take]; omega
        have hb := hb2.trans (hbt.below (by omega) hb2.size)
        replace b4 := hbt.cell b4 (by omega) (by omega)
        by_cases hlt : k < f.kids.length
        · obtain ⟨gb, off, Ap', cp', Ak', ck', hA, hg, c0, c1, c2, c3', c4, hd, hkid⟩ := FltsV.kid2 (FltsV.keep hk (hb.mono hl0)) hlt
          subst hA
          have hltI : (k : Int) < (f.kids.length : Int) := by omega
          have hmem := List.getElem_mem hlt
          have hbd : Below W5.heap.size W5 W5.drew := (Below.refl _ _).drew
          have k0 : W5.drew.cell? ⟨gb, off + k * 5, none⟩ = some (.int .i64 f.kids[k].kind) := c0
          have k1 : W5.drew.cell? ⟨gb, off + k * 5 + 1, none⟩ = some (.string (B f.kids[k].name)) := c1
          have k2 : W5.drew.cell? ⟨gb, off + k * 5 + 2, none⟩ = some (.string (B f.kids[k].value)) := c2
          have k3 : W5.drew.cell? ⟨gb, off + k * 5 + 3, none⟩ = some (.slice Ap' f.kids[k].parts.length cp') := c3'
          have k4 : W5.drew.cell? ⟨gb, off + k * 5 + 4, none⟩ = some (.slice Ak' f.kids[k].kids.length ck') := c4
          have b4d : W5.drew.cell? ⟨w.heap.size, 4, none⟩ = some (.slice (some ⟨gb, off, none⟩) f.kids.length ck) := b4
          have hcall := ih (d - 1) (by omega) _ f.kids[k] false lo W5.drew (FltV.keep hkid (hbd.mono (by have := hbt.size; omega))) (by have := hbt.size; show lo ≤ W5.heap.size; omega) (hks.mem hmem) (hkz _ hmem)
          have hbt5 : But W.heap.size W3 W5.drew := hbt.trans (But.of_below hbd _)
          have hrow5 := hrow.on (Agr.later hbd)
          have G5 := G.later hbd
          have q4 := G5.c4
          have hlt5 := fun j hj => hrow5.lt j hj
          have hdd1 := hdd d hd
          have hs35 : W3.heap.size ≤ W5.drew.heap.size := hbt5.size
          clear hkid c0 c1 c2 c3' c4 hbd ih hk hrow hbt hb hd hmem
          go_wp2_with fail
          clear b4
          go_region_law (first
            | (go_simp
               go_at_call 56
               refine hcall.mono ?_
               rintro e w6 ⟨r6, rfl, hn6, hb6⟩
               obtain ⟨Ap6, cp6, Ak6, ck6, hr6⟩ := hn6.shape
               subst hr6
               obtain ⟨xs, x1, x2, x3, x4, x5⟩ := hrow5.on (Agr.later hb6)
               rw [hlk] at x3
               have hF6 := FCN.of hn6
               rw [hdd1] at hF6
               have G6 := G5.later hb6
               have q46 := G6.c4
               have q46a := cell_later ((Below.refl _ _).alloc (Nat.le_refl _) (.cells #[.int .i64 (fMov false f.kids[k]).kind, .string (B (fMov false f.kids[k]).name), .string (B (fMov false f.kids[k]).value), .slice Ap6 (fMov false f.kids[k]).parts.length cp6, .slice Ak6 (fMov false f.kids[k]).kids.length ck6] 26)) q46
               have hs6 : W3.heap.size ≤ w6.heap.size := Nat.le_trans hs35 hb6.size
               go_wp2_with fail)
            | (refine step_push rfl _ _ 24 rfl W3.heap.size 26 (.agg #[.int .i64 0, .string ⟨#[]⟩, .string ⟨#[]⟩, .slice none 0 0, .slice none 0 0]) 5 88 Tryz.underlying24 info_flt rfl (by decide) _ _ _ x3 rfl [.int .i64 (fMov false f.kids[k]).kind, .string (B (fMov false f.kids[k]).name), .string (B (fMov false f.kids[k]).value), .slice Ap6 (fMov false f.kids[k]).parts.length cp6, .slice Ak6 (fMov false f.kids[k]).kids.length ck6] rfl rfl (by intro u hu; simp at hu; rcases hu with rfl | rfl | rfl | rfl | rfl <;> rfl) (by omega) hs6 ?_ rfl
               intro v7 w7 hown7 hg7 hat7
               obtain ⟨A9, c9, hv9⟩ := own_shape hown7
               subst hv9
               have hb7 : Below W3.heap.size w6 w7 := (Below.refl _ _).grown hg7 hs6 (fun j hj => (x3.lt j hj).1)
               have G7 := G6.keep hb7 (by omega)
               have st1 := G7.c4
               have st2 := G7.fz 4))
          all_goals
            have hrow7 := RowF.push (Y := fun j => lo ≤ j ∧ j < W5.drew.heap.size) hlk x1 x2 x4 x5 rfl hF6 (fun j _ hj => by
              rcases hj with hj | hj
              · exact sub_lt hs35 j hj
              · exact ⟨Nat.le_trans hl3 (hlt5 j hj).1, (hlt5 j hj).2⟩) (fun j hj => Nat.lt_of_lt_of_le hj.2 hs6) hown7 hg7 hat7
            have hap : (f.kids.take k).map (fMov false) ++ [fMov false f.kids[k]] = (f.kids.take (k + 1)).map (fMov false) := by rw [List.take_succ_eq_append_getElem hlt, List.map_append]; rfl
            rw [hap] at hrow7
            clear hap
            have hput : But W.heap.size w7 (w7.setCell ⟨W.heap.size, 4, none⟩ (.slice A9 (k + 1) c9)) := (But.refl _ _).put _
            have hrow8 := hrow7.on (Agr.but hput ⟨hlW, by omega⟩)
            have G8 := gen_put4 (R := fun Z => Box5 Z W.heap.size (.int .i64 (kd)) (.string ⟨#[]⟩) (.string ⟨#[]⟩) (.slice none 0 0) (.slice A9 (k + 1) c9)) (u := .slice A9 (k + 1) c9) G7 (fun _ _ h _ => h)
            have hbt8 := ((hbt5.trans (But.of_below hb6 _)).own (hb7.mono (Nat.le_refl _))).trans hput
            clear hrow7 G7 st1 st2 hput hown7 hg7 hat7 x1 x2 x3 x4 x5 hF6 hlt5 q46 q46a G6 G5 q4 hcall
            go_wp2_with fail
            go_roundw
            case rel => exact ⟨k + 1, A9, c9, by omega, by go_num, G8, hrow8, hbt8⟩
            case measure => simp [intOf]; omega
        · have hkk : k = f.kids.length := by omega
          subst hkk
          have hltI : ¬ (f.kids.length : Int) < (f.kids.length : Int) := by omega
          rw [List.take_of_length_le (by omega)] at hrow
          replace B2 := B2.but hbt (by omega)
          have hfin := FltN.mk (X := fun j => lo ≤ j ∧ j < w.heap.size + 2) (f := .mk (kd) [] [] [] (f.kids.map (fMov false))) (StrsN.nil _ _) (hrow.read.sub (fun j _ hj => sub_lt (by omega) j hj))
          clear hrow hk ih hbt
          obtain ⟨d0, d1, d2, d3, d4, df, dl⟩ := G
          obtain ⟨z0, z1, z2, z3, z4, zf, zl⟩ := B2
          have g0 := zf 0
          have g1 := zf 1
          have g2 := zf 2
          have g3 := zf 3
          have g4 := zf 4
          clear zf
          clear df
          go_wp2_with fail
          exact bodyPost_ret (v := .agg #[.int .i64 (kd), .string ⟨#[]⟩, .string ⟨#[]⟩, .slice none 0 0, .slice A f.kids.length c]) (by simp [results, Tryz.results56, go_sem, z0, z1, z2, z3, z4, g0, g1, g2, g3, g4]) rfl ⟨_, rfl, (hfin.on (Agr.but (put5 (w.heap.size + 1) _ _ _ _ _ _) ⟨by omega, by omega⟩)).sub (fun j _ hj => sub_lt (by omega) j hj), hb.trans ((put5 (w.heap.size + 1) _ _ _ _ _ _).below (by omega) hb.size)⟩
    · simp only [Bool.false_eq_true, ↓reduceIte]
      go_enter Tryz.func56, Tryz.ntmps56
      go_upto_region 1 with fail
      with_reducible refine gen2g (R := fun W => Code.wp Tryz.prog _ _ _ W) ?_
      intro W hbW hszW hc1 hc2 hf1 hf2
      have b0 : W.cell? ⟨w.heap.size, 0, none⟩ = some (.int .i64 kd) := hc1 0 _ rfl
      have b1 : W.cell? ⟨w.heap.size, 1, none⟩ = some (.string (B f.name)) := hc1 1 _ rfl
      have b2 : W.cell? ⟨w.heap.size, 2, none⟩ = some (.string (B f.value)) := hc1 2 _ rfl
      have b3 : W.cell? ⟨w.heap.size, 3, none⟩ = some (.slice Ap f.parts.length cp) := hc1 3 _ rfl
      have b4 : W.cell? ⟨w.heap.size, 4, none⟩ = some (.slice Ak f.kids.length ck) := hc1 4 _ rfl
      have B2 : Box5 W (w.heap.size + 1) (.int .i64 0) (.string ⟨#[]⟩) (.string ⟨#[]⟩) (.slice none 0 0) (.slice none 0 0) := ⟨hc2 0 _ rfl, hc2 1 _ rfl, hc2 2 _ rfl, hc2 3 _ rfl, hc2 4 _ rfl, hf2, by omega⟩
      have hlo : w.heap.size + 2 ≤ W.heap.size := by omega
      have hlW : lo ≤ W.heap.size := by omega
      have hbL : Below lo w W := hbW.mono hl0
      clear hc1 hc2 hf1 hf2 hszW
      go_wp2_with fail
      refine (kC W).mono ?_
      rintro e wd ⟨rfl, rfl⟩
      clear kC
      go_upto_region 8 with fail
      with_reducible refine gen1 (R := fun W => Code.wp Tryz.prog _ _ _ W) ?_
      intro W2 hbW2 hszW2 hcc hff
      have G : Box5 W2 W.heap.size (.int .i64 kd) (.string ⟨#[]⟩) (.string ⟨#[]⟩) (.slice none 0 0) (.slice none 0 0) := ⟨hcc 0 _ rfl, hcc 1 _ rfl, hcc 2 _ rfl, hcc 3 _ rfl, hcc 4 _ rfl, hff, by omega⟩
      replace B2 := B2.later hbW2
      replace b4 := cell_later hbW2 b4
      replace b0 := cell_later hbW2 b0
      have hlo2 : W.heap.size + 1 ≤ W2.heap.size := by omega
      have hb2 := hbW.trans (hbW2.mono hbW.size)
      clear hcc hff hszW2 b1 b2 b3 hbW2 hbL
      have g0 := G.c0
      have gf := G.fz 0
      go_upto_region 10 with fail
      with_reducible refine gen_put0 (R := fun W => Code.wp Tryz.prog _ _ _ W) G ?_
      intro W3 hbP G3 hsz3
      replace b4 := hbP.cell b4 (by omega) (by omega)
      replace B2 := B2.but hbP (by omega)
      replace hb2 : Below w.heap.size w W3 := hb2.trans (hbP.below (by omega) hb2.size)
      replace hlo2 : W.heap.size + 1 ≤ W3.heap.size := by omega
      clear b0 g0 gf G hbP hsz3
      have G := G3
      clear G3
      have hl3 : lo ≤ W3.heap.size := by omega
      go_wp2_with fail
      go_loopw [6] (fun i wr => ∃ (k : Nat) (A : Option Addr) (c : Nat), k ≤ f.kids.length ∧ i = .int .i64 k ∧ Box5 wr W.heap.size (.int .i64 (3 - kd)) (.string ⟨#[]⟩) (.string ⟨#[]⟩) (.slice none 0 0) (.slice A k c) ∧ RowF (fun j => lo ≤ j ∧ j < W3.heap.size) wr W3.heap.size (d + 1) (.slice A k c) ((f.kids.take k).map (fMov true)) ∧ But W.heap.size W3 wr) (fun i _ => f.kids.length - (intOf i).toNat)
      case atStart => exact ⟨0, none, 0, Nat.zero_le _, rfl, G, RowF.nil _ _ _ _, But.refl _ _⟩
      case round =>
        obtain ⟨k, A, c, hk9, rfl, G, hrow, hbt⟩ := hrel
        obtain ⟨W5, hW5⟩ : ∃ W5 : World, W5 = wr := ⟨_, rfl⟩
        subst hW5
        have hlk : ((f.kids.take k).map (fMov true)).length = k := by rw [List.length_map, List.length_take]; omega
        have hb := hb2.trans (hbt.below (by omega) hb2.size)
        replace b4 := hbt.cell b4 (by omega) (by omega)
        by_cases hlt : k < f.kids.length
        · obtain ⟨gb, off, Ap', cp', Ak', ck', hA, hg, c0, c1, c2, c3', c4, hd, hkid⟩ := FltsV.kid2 (FltsV.keep hk (hb.mono hl0)) hlt
          subst hA
          have hltI : (k : Int) < (f.kids.length : Int) := by omega
          have hmem := List.getElem_mem hlt
          have hbd : Below W5.heap.size W5 W5.drew := (Below.refl _ _).drew
          have k0 : W5.drew.cell? ⟨gb, off + k * 5, none⟩ = some (.int .i64 f.kids[k].kind) := c0
          have k1 : W5.drew.cell? ⟨gb, off + k * 5 + 1, none⟩ = some (.string (B f.kids[k].name)) := c1
          have k2 : W5.drew.cell? ⟨gb, off + k * 5 + 2, none⟩ = some (.string (B f.kids[k].value)) := c2
          have k3 : W5.drew.cell? ⟨gb, off + k * 5 + 3, none⟩ = some (.slice Ap' f.kids[k].parts.length cp') := c3'
          have k4 : W5.drew.cell? ⟨gb, off + k * 5 + 4, none⟩ = some (.slice Ak' f.kids[k].kids.length ck') := c4
          have b4d : W5.drew.cell? ⟨w.heap.size, 4, none⟩ = some (.slice (some ⟨gb, off, none⟩) f.kids.length ck) := b4
          have hcall := ih (d - 1) (by omega) _ f.kids[k] true lo W5.drew (FltV.keep hkid (hbd.mono (by have := hbt.size; omega))) (by have := hbt.size; show lo ≤ W5.heap.size; omega) (hks.mem hmem) (hkz _ hmem)
          have hbt5 : But W.heap.size W3 W5.drew := hbt.trans (But.of_below hbd _)
          have hrow5 := hrow.on (Agr.later hbd)
          have G5 := G.later hbd
          have q4 := G5.c4
          have hlt5 := fun j hj => hrow5.lt j hj
          have hdd1 := hdd d hd
          have hs35 : W3.heap.size ≤ W5.drew.heap.size := hbt5.size
          clear hkid c0 c1 c2 c3' c4 hbd ih hk hrow hbt hb hd hmem
          go_wp2_with fail
          clear b4
          go_region_law (first
            | (go_simp
               go_at_call 56
               refine hcall.mono ?_
               rintro e w6 ⟨r6, rfl, hn6, hb6⟩
               obtain ⟨Ap6, cp6, Ak6, ck6, hr6⟩ := hn6.shape
               subst hr6
               obtain ⟨xs, x1, x2, x3, x4, x5⟩ := hrow5.on (Agr.later hb6)
               rw [hlk] at x3
               have hF6 := FCN.of hn6
               rw [hdd1] at hF6
               have G6 := G5.later hb6
               have q46 := G6.c4
               have q46a := cell_later ((Below.refl _ _).alloc (Nat.le_refl _) (.cells #[.int .i64 (fMov true f.kids[k]).kind, .string (B (fMov true f.kids[k]).name), .string (B (fMov true f.kids[k]).value), .slice Ap6 (fMov true f.kids[k]).parts.length cp6, .slice Ak6 (fMov true f.kids[k]).kids.length ck6] 26)) q46
               have hs6 : W3.heap.size ≤ w6.heap.size := Nat.le_trans hs35 hb6.size
               go_wp2_with fail)
            | (refine step_push rfl _ _ 24 rfl W3.heap.size 26 (.agg #[.int .i64 0, .string ⟨#[]⟩, .string ⟨#[]⟩, .slice none 0 0, .slice none 0 0]) 5 88 Tryz.underlying24 info_flt rfl (by decide) _ _ _ x3 rfl [.int .i64 (fMov true f.kids[k]).kind, .string (B (fMov true f.kids[k]).name), .string (B (fMov true f.kids[k]).value), .slice Ap6 (fMov true f.kids[k]).parts.length cp6, .slice Ak6 (fMov true f.kids[k]).kids.length ck6] rfl rfl (by intro u hu; simp at hu; rcases hu with rfl | rfl | rfl | rfl | rfl <;> rfl) (by omega) hs6 ?_ rfl
               intro v7 w7 hown7 hg7 hat7
               obtain ⟨A9, c9, hv9⟩ := own_shape hown7
               subst hv9
               have hb7 : Below W3.heap.size w6 w7 := (Below.refl _ _).grown hg7 hs6 (fun j hj => (x3.lt j hj).1)
               have G7 := G6.keep hb7 (by omega)
               have st1 := G7.c4
               have st2 := G7.fz 4))
          all_goals
            have hrow7 := RowF.push (Y := fun j => lo ≤ j ∧ j < W5.drew.heap.size) hlk x1 x2 x4 x5 rfl hF6 (fun j _ hj => by
              rcases hj with hj | hj
              · exact sub_lt hs35 j hj
              · exact ⟨Nat.le_trans hl3 (hlt5 j hj).1, (hlt5 j hj).2⟩) (fun j hj => Nat.lt_of_lt_of_le hj.2 hs6) hown7 hg7 hat7
            have hap : (f.kids.take k).map (fMov true) ++ [fMov true f.kids[k]] = (f.kids.take (k + 1)).map (fMov true) := by rw [List.take_succ_eq_append_getElem hlt, List.map_append]; rfl
            rw [hap] at hrow7
            clear hap
            have hput : But W.heap.size w7 (w7.setCell ⟨W.heap.size, 4, none⟩ (.slice A9 (k + 1) c9)) := (But.refl _ _).put _
            have hrow8 := hrow7.on (Agr.but hput ⟨hlW, by omega⟩)
            have G8 := gen_put4 (R := fun Z => Box5 Z W.heap.size (.int .i64 (3 - kd)) (.string ⟨#[]⟩) (.string ⟨#[]⟩) (.slice none 0 0) (.slice A9 (k + 1) c9)) (u := .slice A9 (k + 1) c9) G7 (fun _ _ h _ => h)
            have hbt8 := ((hbt5.trans (But.of_below hb6 _)).own (hb7.mono (Nat.le_refl _))).trans hput
            clear hrow7 G7 st1 st2 hput hown7 hg7 hat7 x1 x2 x3 x4 x5 hF6 hlt5 q46 q46a G6 G5 q4 hcall
            go_wp2_with fail
            go_roundw
            case rel => exact ⟨k + 1, A9, c9, by omega, by go_num, G8, hrow8, hbt8⟩
            case measure => simp [intOf]; omega
        · have hkk : k = f.kids.length := by omega
          subst hkk
          have hltI : ¬ (f.kids.length : Int) < (f.kids.length : Int) := by omega
          rw [List.take_of_length_le (by omega)] at hrow
          replace B2 := B2.but hbt (by omega)
          have hfin := FltN.mk (X := fun j => lo ≤ j ∧ j < w.heap.size + 2) (f := .mk (3 - kd) [] [] [] (f.kids.map (fMov true))) (StrsN.nil _ _) (hrow.read.sub (fun j _ hj => sub_lt (by omega) j hj))
          clear hrow hk ih hbt
          obtain ⟨d0, d1, d2, d3, d4, df, dl⟩ := G
          obtain ⟨z0, z1, z2, z3, z4, zf, zl⟩ := B2
          have g0 := zf 0
          have g1 := zf 1
          have g2 := zf 2
          have g3 := zf 3
          have g4 := zf 4
          clear zf
          clear df
          go_wp2_with fail
          exact bodyPost_ret (v := .agg #[.int .i64 (3 - kd), .string ⟨#[]⟩, .string ⟨#[]⟩, .slice none 0 0, .slice A f.kids.length c]) (by simp [results, Tryz.results56, go_sem, z0, z1, z2, z3, z4, g0, g1, g2, g3, g4]) rfl ⟨_, rfl, (hfin.on (Agr.but (put5 (w.heap.size + 1) _ _ _ _ _ _) ⟨by omega, by omega⟩)).sub (fun j _ hj => sub_lt (by omega) j hj), hb.trans ((put5 (w.heap.size + 1) _ _ _ _ _ _).below (by omega) hb.size)⟩
  · subst hkd
    rw [hcmp] at kC
    cases b
    · simp only [Bool.false_eq_true, ↓reduceIte]
      go_enter Tryz.func56, Tryz.ntmps56
      go_upto_region 1 with fail
      with_reducible refine gen2g (R := fun W => Code.wp Tryz.prog _ _ _ W) ?_
      intro W hbW hszW hc1 hc2 hf1 hf2
      have b0 : W.cell? ⟨w.heap.size, 0, none⟩ = some (.int .i64 f.kind) := hc1 0 _ rfl
      have b1 : W.cell? ⟨w.heap.size, 1, none⟩ = some (.string (B f.name)) := hc1 1 _ rfl
      have b2 : W.cell? ⟨w.heap.size, 2, none⟩ = some (.string (B f.value)) := hc1 2 _ rfl
      have b3 : W.cell? ⟨w.heap.size, 3, none⟩ = some (.slice Ap f.parts.length cp) := hc1 3 _ rfl
      have b4 : W.cell? ⟨w.heap.size, 4, none⟩ = some (.slice Ak f.kids.length ck) := hc1 4 _ rfl
      have B2 : Box5 W (w.heap.size + 1) (.int .i64 0) (.string ⟨#[]⟩) (.string ⟨#[]⟩) (.slice none 0 0) (.slice none 0 0) := ⟨hc2 0 _ rfl, hc2 1 _ rfl, hc2 2 _ rfl, hc2 3 _ rfl, hc2 4 _ rfl, hf2, by omega⟩
      have hlo : w.heap.size + 2 ≤ W.heap.size := by omega
      have hlW : lo ≤ W.heap.size := by omega
      have hbL : Below lo w W := hbW.mono hl0
      clear hc1 hc2 hf1 hf2 hszW
      have hn : FltN (fun k => lo ≤ k ∧ k < w.heap.size + 2) W d (.agg #[.int .i64 f.kind, .string (B f.name), .string (B f.value), .slice Ap f.parts.length cp, .slice Ak f.kids.length ck]) f := FltN.old (FltV.keep hv hbL) (fun k hk => hk.1) hlW
      clear ih hk hv
      go_wp2_with fail
      refine (kC W).mono ?_
      rintro e wd ⟨rfl, rfl⟩
      clear kC
      have hfin := hn.deep (show d ≤ d + 1 by omega)
      have hb := hbW
      clear hn
      obtain ⟨z0, z1, z2, z3, z4, zf, zl⟩ := B2
      have g0 := zf 0
      have g1 := zf 1
      have g2 := zf 2
      have g3 := zf 3
      have g4 := zf 4
      clear zf
      go_wp2_with fail
      exact bodyPost_ret (v := .agg #[.int .i64 f.kind, .string (B f.name), .string (B f.value), .slice Ap f.parts.length cp, .slice Ak f.kids.length ck]) (by simp [results, Tryz.results56, go_sem, z0, z1, z2, z3, z4, g0, g1, g2, g3, g4]) rfl ⟨_, rfl, (hfin.on (Agr.but (put5 (w.heap.size + 1) _ _ _ _ _ _) ⟨by omega, by omega⟩)).sub (fun j _ hj => sub_lt (by omega) j hj), hb.trans ((put5 (w.heap.size + 1) _ _ _ _ _ _).below (by omega) hb.size)⟩
    · simp only [Bool.false_eq_true, ↓reduceIte]
      go_enter Tryz.func56, Tryz.ntmps56
      go_upto_region 1 with fail
      with_reducible refine gen2g (R := fun W => Code.wp Tryz.prog _ _ _ W) ?_
      intro W hbW hszW hc1 hc2 hf1 hf2
      have b0 : W.cell? ⟨w.heap.size, 0, none⟩ = some (.int .i64 f.kind) := hc1 0 _ rfl
      have b1 : W.cell? ⟨w.heap.size, 1, none⟩ = some (.string (B f.name)) := hc1 1 _ rfl
      have b2 : W.cell? ⟨w.heap.size, 2, none⟩ = some (.string (B f.value)) := hc1 2 _ rfl
      have b3 : W.cell? ⟨w.heap.size, 3, none⟩ = some (.slice Ap f.parts.length cp) := hc1 3 _ rfl
      have b4 : W.cell? ⟨w.heap.size, 4, none⟩ = some (.slice Ak f.kids.length ck) := hc1 4 _ rfl
      have B2 : Box5 W (w.heap.size + 1) (.int .i64 0) (.string ⟨#[]⟩) (.string ⟨#[]⟩) (.slice none 0 0) (.slice none 0 0) := ⟨hc2 0 _ rfl, hc2 1 _ rfl, hc2 2 _ rfl, hc2 3 _ rfl, hc2 4 _ rfl, hf2, by omega⟩
      have hlo : w.heap.size + 2 ≤ W.heap.size := by omega
      have hlW : lo ≤ W.heap.size := by omega
      have hbL : Below lo w W := hbW.mono hl0
      clear hc1 hc2 hf1 hf2 hszW
      have hn : FltN (fun k => lo ≤ k ∧ k < w.heap.size + 2) W d (.agg #[.int .i64 f.kind, .string (B f.name), .string (B f.value), .slice Ap f.parts.length cp, .slice Ak f.kids.length ck]) f := FltN.old (FltV.keep hv hbL) (fun k hk => hk.1) hlW
      clear ih hk hv
      go_wp2_with fail
      refine (kC W).mono ?_
      rintro e wd ⟨rfl, rfl⟩
      clear kC
      have hfin := (FltN.mk (f := notF f) (StrsN.nil _ _) (FltsN.one (FCN.of hn) (fun j hj => by have := hj.2; omega)))
      replace B2 := B2.later ((Below.refl W.heap.size W).alloc (Nat.le_refl _) (.cells #[.int .i64 f.kind, .string (B f.name), .string (B f.value), .slice Ap f.parts.length cp, .slice Ak f.kids.length ck] 26))
      have hb := hbW.alloc hbW.size (.cells #[.int .i64 f.kind, .string (B f.name), .string (B f.value), .slice Ap f.parts.length cp, .slice Ak f.kids.length ck] 26)
      clear hn
      obtain ⟨z0, z1, z2, z3, z4, zf, zl⟩ := B2
      have g0 := zf 0
      have g1 := zf 1
      have g2 := zf 2
      have g3 := zf 3
      have g4 := zf 4
      clear zf
      go_wp2_with fail
      exact bodyPost_ret (v := .agg #[.int .i64 3, .string ⟨#[]⟩, .string ⟨#[]⟩, .slice none 0 0, .slice (some ⟨W.heap.size, 0, none⟩) 1 1]) (by simp [results, Tryz.results56, go_sem, z0, z1, z2, z3, z4, g0, g1, g2, g3, g4]) rfl ⟨_, rfl, (hfin.on (Agr.but (put5 (w.heap.size + 1) _ _ _ _ _ _) ⟨by omega, by omega⟩)).sub (fun j _ hj => sub_lt (by omega) j hj), hb.trans ((put5 (w.heap.size + 1) _ _ _ _ _ _).below (by omega) hb.size)⟩
theorem r9_Simplify_any (d : Nat) (v : Value) (f : Flt) (lo : Nat) (w : World) (hv : FltV w lo d v f) (hl0 : lo ≤ w.heap.size) (hs : FSm 400 f) : Calls Tryz.prog 29 #[v] w (RetM lo w (d + 1) (fSimp f)) := by
 have hs1 : FSm 1000 f := hs.up (by decide)
 have kC := fun W (hW : Below w.heap.size w W) => r9_Check_any d _ f W (FltV.mono (FltV.keep hv (hW.mono hl0)) (by have := hW.size; omega)) hs1
 have kS := fun (hz : nodeErr f = 0) W (hW : Below w.heap.size w W) => r9_moved_any d _ f false lo W (FltV.keep hv (hW.mono hl0)) (by have := hW.size; omega) hs1 hz
 have kF := fun W (hW : Below w.heap.size w W) => FltN.old (X := fun k => lo ≤ k ∧ k < w.heap.size + 2) (FltV.keep hv (hW.mono hl0)) (fun k hk => hk.1) (by have := hW.size; omega)
 have kZ := fun (hz : fCheck f = 0) => (fCheck_zero.1 hz).2.2
 have HR : Hid (fSimp f = if fCheck f != 0 then f else if fCheck (fMov false f) != 0 then f else fMov false f) := rfl
 have hsm := fun (hz : nodeErr f = 0) => (fMov_sm hs hz false).up (show 2 * 400 ≤ 1000 by decide)
 obtain ⟨Ap, cp, Ak, ck, rfl, hp, hk⟩ := hv.shape
 generalize fSimp f = R at *
 generalize fCheck f = ec at *
 clear hp hk hv hs hs1
 go_enter Tryz.func29, Tryz.ntmps29
 go_upto_region 1 with fail
 with_reducible refine gen2g (R := fun W => Code.wp Tryz.prog _ _ _ W) ?_
 intro W hbW hszW hc1 hc2 hf1 hf2
 have b0 : W.cell? ⟨w.heap.size, 0, none⟩ = some (.int .i64 f.kind) := hc1 0 _ rfl
 have b1 : W.cell? ⟨w.heap.size, 1, none⟩ = some (.string (B f.name)) := hc1 1 _ rfl
 have b2 : W.cell? ⟨w.heap.size, 2, none⟩ = some (.string (B f.value)) := hc1 2 _ rfl
 have b3 : W.cell? ⟨w.heap.size, 3, none⟩ = some (.slice Ap f.parts.length cp) := hc1 3 _ rfl
 have b4 : W.cell? ⟨w.heap.size, 4, none⟩ = some (.slice Ak f.kids.length ck) := hc1 4 _ rfl
 have B2 : Box5 W (w.heap.size + 1) (.int .i64 0) (.string ⟨#[]⟩) (.string ⟨#[]⟩) (.slice none 0 0) (.slice none 0 0) := ⟨hc2 0 _ rfl, hc2 1 _ rfl, hc2 2 _ rfl, hc2 3 _ rfl, hc2 4 _ rfl, hf2, by omega⟩
 have hlo : w.heap.size + 2 ≤ W.heap.size := by omega
 have hlW : lo ≤ W.heap.size := by omega
 clear hc1 hc2 hf1 hf2 hszW
 go_wp2_with fail
 refine (kC W hbW).mono ?_
 rintro e w1 ⟨rfl, hb1⟩
 replace b0 := cell_later hb1 b0
 replace b1 := cell_later hb1 b1
 replace b2 := cell_later hb1 b2
 replace b3 := cell_later hb1 b3
 replace b4 := cell_later hb1 b4
 replace B2 := B2.later hb1
 replace hlo : w.heap.size + 2 ≤ w1.heap.size := Nat.le_trans hlo hb1.size
 have hbw1 := hbW.trans (hb1.mono hbW.size)
 clear kC hb1 hbW
 by_cases hec : ec = 0
 case neg =>
  have hI : (ec != 0) = true := by simpa using hec
  have HF : Hid (R = f) := by show _ = _; rw [HR.out, hI]; rfl
  have hfin := (kF w1 hbw1).deep (show d ≤ d + 1 by omega)
  have hb := hbw1
  clear HR kS kZ hsm hec kF
  obtain ⟨z0, z1, z2, z3, z4, zf, zl⟩ := B2
  have g0 := zf 0
  have g1 := zf 1
  have g2 := zf 2
  have g3 := zf 3
  have g4 := zf 4
  clear zf
  go_wp2_with fail
  rw [HF.out]
  exact bodyPost_ret (v := .agg #[.int .i64 f.kind, .string (B f.name), .string (B f.value), .slice Ap f.parts.length cp, .slice Ak f.kids.length ck]) (by simp [results, Tryz.results29, go_sem, z0, z1, z2, z3, z4, g0, g1, g2, g3, g4]) rfl ⟨_, rfl, (hfin.on (Agr.but (put5 (w.heap.size + 1) _ _ _ _ _ _) ⟨by omega, by omega⟩)).sub (fun j _ hj => sub_lt (by omega) j hj), hb.trans ((put5 (w.heap.size + 1) _ _ _ _ _ _).below (by omega) hb.size)⟩
 have hne := kZ hec
 replace kS := kS hne
 have hsm2 := hsm hne
 have hI : (ec != 0) = false := by simpa using hec
 have HR2 : Hid (R = if fCheck (fMov false f) != 0 then f else fMov false f) := by show _ = _; rw [HR.out, hI]; rfl
 clear HR kZ hsm hec hne
 generalize fMov false f = g at *
 go_wp2_with fail
 refine (kS w1 hbw1).mono ?_
 rintro e w2 ⟨r2, rfl, hn2, hb2⟩
 obtain ⟨A3, k3, A4, k4, hr2⟩ := hn2.shape
 subst hr2
 go_upto_region 4 with fail
 with_reducible refine gen1 (R := fun W => Code.wp Tryz.prog _ _ _ W) ?_
 intro W3 hbW3 hszW3 hc3 _
 have y0 : W3.cell? ⟨w2.heap.size, 0, none⟩ = some (.int .i64 g.kind) := hc3 0 _ rfl
 have y1 : W3.cell? ⟨w2.heap.size, 1, none⟩ = some (.string (B g.name)) := hc3 1 _ rfl
 have y2 : W3.cell? ⟨w2.heap.size, 2, none⟩ = some (.string (B g.value)) := hc3 2 _ rfl
 have y3 : W3.cell? ⟨w2.heap.size, 3, none⟩ = some (.slice A3 g.parts.length k3) := hc3 3 _ rfl
 have y4 : W3.cell? ⟨w2.heap.size, 4, none⟩ = some (.slice A4 g.kids.length k4) := hc3 4 _ rfl
 have hb23 := hb2.trans (hbW3.mono hb2.size)
 replace b0 := cell_later hb23 b0
 replace b1 := cell_later hb23 b1
 replace b2 := cell_later hb23 b2
 replace b3 := cell_later hb23 b3
 replace b4 := cell_later hb23 b4
 replace B2 := B2.later hb23
 replace hbw1 : Below w.heap.size w W3 := hbw1.trans (hb23.mono hbw1.size)
 have hn3 := (hn2.sub (Y := fun k => lo ≤ k ∧ k < w.heap.size + 2) (fun j _ hj => sub_lt hlo j hj)).on (Agr.later hbW3)
 have hG := r9_Check_any (d + 1) _ g W3 hn3.now hsm2
 replace hlo : w.heap.size + 2 ≤ W3.heap.size := by have := hb23.size; omega
 clear hc3 hszW3 hbW3 hb2 hb23 hn2 kS hsm2
 generalize fCheck g = ge at *
 go_wp2_with fail
 refine hG.mono ?_
 rintro e w4 ⟨rfl, hb4⟩
 replace b0 := cell_later hb4 b0
 replace b1 := cell_later hb4 b1
 replace b2 := cell_later hb4 b2
 replace b3 := cell_later hb4 b3
 replace b4 := cell_later hb4 b4
 replace B2 := B2.later hb4
 replace y0 := cell_later hb4 y0
 replace y1 := cell_later hb4 y1
 replace y2 := cell_later hb4 y2
 replace y3 := cell_later hb4 y3
 replace y4 := cell_later hb4 y4
 replace hn3 := hn3.on (Agr.later hb4)
 replace hlo : w.heap.size + 2 ≤ w4.heap.size := Nat.le_trans hlo hb4.size
 have hb : Below w.heap.size w w4 := hbw1.trans (hb4.mono hbw1.size)
 clear hG hb4 hbw1
 by_cases hge : ge = 0
 case neg =>
  have hJ : (ge != 0) = true := by simpa using hge
  have HF : Hid (R = f) := by show _ = _; rw [HR2.out, hJ]; rfl
  have hfin := (kF w4 hb).deep (show d ≤ d + 1 by omega)
  clear HR2 hge hn3 kF y0 y1 y2 y3 y4
  obtain ⟨z0, z1, z2, z3, z4, zf, zl⟩ := B2
  have g0 := zf 0
  have g1 := zf 1
  have g2 := zf 2
  have g3 := zf 3
  have g4 := zf 4
  clear zf
  go_wp2_with fail
  rw [HF.out]
  exact bodyPost_ret (v := .agg #[.int .i64 f.kind, .string (B f.name), .string (B f.value), .slice Ap f.parts.length cp, .slice Ak f.kids.length ck]) (by simp [results, Tryz.results29, go_sem, z0, z1, z2, z3, z4, g0, g1, g2, g3, g4]) rfl ⟨_, rfl, (hfin.on (Agr.but (put5 (w.heap.size + 1) _ _ _ _ _ _) ⟨by omega, by omega⟩)).sub (fun j _ hj => sub_lt (by omega) j hj), hb.trans ((put5 (w.heap.size + 1) _ _ _ _ _ _).below (by omega) hb.size)⟩
 have hJ : (ge != 0) = false := by simpa using hge
 have HF : Hid (R = g) := by show _ = _; rw [HR2.out, hJ]; rfl
 have hfin := hn3
 clear HR2 hge b0 b1 b2 b3 b4 hn3 kF
 obtain ⟨z0, z1, z2, z3, z4, zf, zl⟩ := B2
 have g0 := zf 0
 have g1 := zf 1
 have g2 := zf 2
 have g3 := zf 3
 have g4 := zf 4
 clear zf
 go_wp2_with fail
 rw [HF.out]
 exact bodyPost_ret (v := .agg #[.int .i64 g.kind, .string (B g.name), .string (B g.value), .slice A3 g.parts.length k3, .slice A4 g.kids.length k4]) (by simp [results, Tryz.results29, go_sem, z0, z1, z2, z3, z4, g0, g1, g2, g3, g4]) rfl ⟨_, rfl, (hfin.on (Agr.but (put5 (w.heap.size + 1) _ _ _ _ _ _) ⟨by omega, by omega⟩)).sub (fun j _ hj => sub_lt (by omega) j hj), hb.trans ((put5 (w.heap.size + 1) _ _ _ _ _ _).below (by omega) hb.size)⟩
end Go.Proofs.YtmamnmjfbadiiaaGreatDoor
