/- Part 49 of the proof that identitylaw09.FilterNames returns true at all filters: the package variables hold what the program lays; nothing else is asked. -/
import Derived.Test.YtmamnmjfbadiiaaGreatDoorFna19
import Derived.Test.YtmamnmjfbadiiaaGreatDoorFna43
import Derived.Test.YtmamnmjfbadiiaaGreatDoorFna45
import Derived.Test.YtmamnmjfbadiiaaGreatDoorFna48
set_option linter.unusedVariables false
set_option linter.unusedSimpArgs false
/- law09: FilterChecks. -/
namespace Go.Proofs.YtmamnmjfbadiiaaGreatDoor
open Go.RowKit Go.Sort
open Idn (L B Bs drop_L take_L size_L)
set_option maxRecDepth 100000 in
theorem r9_Great_any (d : Nat) (v : Value) (f : Flt) (m : Nat) (w : World) (hv : FltV w w.heap.size d v f) (hl : fLen f) (hm : m ≤ 1000) : Calls Tryz.prog 10 #[v, .int .i64 (m : Int)] w (RetN (FSm m f) w) := by
  have kG := fun (p : Nat) W (hp : w.heap.size ≤ p) (hW : Below w.heap.size w W) => r9_great_any d v f p m W (FltV.mono (FltV.keep hv hW) hp) hl
  obtain ⟨Ap, cp, Ak, ck, rfl, hp, hk⟩ := hv.shape
  clear hp hk hv
  go_enter Tryz.func10, Tryz.ntmps10
  go_upto_region 1 with fail
  with_reducible refine gen1 (R := fun W => Code.wp Tryz.prog _ _ _ W) ?_
  intro W hbW hszW hc _
  have b0 : W.cell? ⟨w.heap.size, 0, none⟩ = some (.int .i64 f.kind) := hc 0 _ rfl
  have b1 : W.cell? ⟨w.heap.size, 1, none⟩ = some (.string (B f.name)) := hc 1 _ rfl
  have b2 : W.cell? ⟨w.heap.size, 2, none⟩ = some (.string (B f.value)) := hc 2 _ rfl
  have b3 : W.cell? ⟨w.heap.size, 3, none⟩ = some (.slice Ap f.parts.length cp) := hc 3 _ rfl
  have b4 : W.cell? ⟨w.heap.size, 4, none⟩ = some (.slice Ak f.kids.length ck) := hc 4 _ rfl
  clear hc hszW
  go_upto_region 2 with fail
  with_reducible refine gen1 (R := fun W => Code.wp Tryz.prog _ _ _ W) ?_
  intro W2 hbW2 hszW2 hc2 hf2
  have p0 : W2.cell? ⟨W.heap.size, 0, none⟩ = some (.int .i64 (m : Int)) := hc2 0 _ rfl
  have hb := hbW.trans (hbW2.mono hbW.size)
  have hG := kG W.heap.size W2 hbW.size hb (by omega) p0 (hf2 0) hm
  replace b0 := cell_later hbW2 b0
  replace b1 := cell_later hbW2 b1
  replace b2 := cell_later hbW2 b2
  replace b3 := cell_later hbW2 b3
  replace b4 := cell_later hbW2 b4
  have hsw := hbW.size
  have hsw2 := hb.size
  clear hc2 hf2 hszW2 hbW2 kG hbW
  go_wp2_with fail
  refine hG.mono ?_
  rintro e w3 ⟨r, m', rfl, _, _, hb3, hr⟩
  have hb' := hb.trans (hb3.below hsw hsw2)
  have HR : Hid (r = false → FSm m f) := fun h => by
    obtain ⟨h1, h2, h3⟩ := hr h
    exact ⟨by omega, h3⟩
  clear hr hG b0 b1 b2 b3 b4 p0
  go_wp2_with fail
  go_ret
  exact ⟨r, rfl, fun h => HR.out h, hb'⟩
end Go.Proofs.YtmamnmjfbadiiaaGreatDoor
/- identityref09: Ascending, named, Names. -/
namespace Go.Proofs.YtmamnmjfbadiiaaGreatDoor
open Go.RowKit Go.Sort
open Idn (L B Bs drop_L take_L size_L)
theorem insK_step2 (l : List Bs) (k : Nat) (hk : k < l.length) (acc : List Bs) : insK (l.drop k) acc = insK (l.drop (k + 1)) (Idn.insS l[k] acc) := by
  rw [List.drop_eq_getElem_cons hk]; rfl
set_option maxHeartbeats 2000000 in
set_option maxRecDepth 100000 in
theorem r9_Asc_any (v : Value) (l : List Bs) (w : World) (hv : StrsV w w.heap.size v l) (hs : l.length ≤ 1000000) : Calls Tryz.prog 50 #[v] w (RetL w (Idn.insAll l)) := by
  obtain ⟨A, c, rfl, hc⟩ := hv.shape
  have HR : Hid (Idn.insAll l = insK l []) := rfl
  generalize Idn.insAll l = res at *
  go_enter Tryz.func50, Tryz.ntmps50
  go_wp2
  go_loopw [3, 4] (fun u i wr => ∃ (k : Nat) (acc : List Bs), k ≤ l.length ∧ i = .int .i64 k ∧ wr.ownsRow w.heap.size 9 1 u acc.length (acc.map sv) ∧ Below w.heap.size w wr ∧ Hid (res = insK (l.drop k) acc) ∧ acc.length ≤ k) (fun _ i _ => l.length - (intOf i).toNat)
  case atStart => exact ⟨0, [], Nat.zero_le _, rfl, World.ownsRow_nil _ _ _ _, Below.refl _ _, by show _ = _; rw [HR.out]; simp, Nat.le_refl _⟩
  case round =>
    obtain ⟨k, acc, hk, rfl, hown, hb, hinv, hal⟩ := hrel
    obtain ⟨wo, hwo⟩ : ∃ wo : World, wo = wr := ⟨_, rfl⟩
    subst hwo
    by_cases hlt : k < l.length
    · obtain ⟨b, off, rfl, hbl, c0⟩ := StrsV.cell (SlV.keep hv hb) hlt
      have hltI : (k : Int) < (l.length : Int) := by omega
      have hst := insK_step2 l k hlt acc
      generalize l[k] = n at *
      have HST : Hid (res = insK (l.drop (k + 1)) (Idn.insS n acc)) := by show _ = _; rw [hinv.out, hst]
      clear hst hinv
      obtain ⟨Au, cu, hu⟩ := own_shape hown
      subst hu
      have hS := StrsV.of_own hown
      go_upto_block 2 with fail
      go_cut [5] (fun t wx => ∃ j : Nat, t = .int .i64 j ∧ j ≤ acc.length ∧ Below wo.heap.size wo wx ∧ Hid (∀ (i : Nat) (x : Bs), i < j → acc[i]? = some x → x < n) ∧ Hid (∀ x, acc[j]? = some x → ¬ x < n))
      case first =>
        go_wp2_with fail
        go_loopw [5] (fun t wx => ∃ j : Nat, j ≤ acc.length ∧ t = .int .i64 j ∧ Below wo.heap.size wo wx ∧ Hid (∀ (i : Nat) (x : Bs), i < j → acc[i]? = some x → x < n)) (fun t _ => acc.length - (intOf t).toNat)
        case atStart => exact ⟨0, Nat.zero_le _, rfl, Below.refl _ _, fun i x h => absurd h (by omega)⟩
        case round =>
          obtain ⟨j, hj, rfl, hbj, hbef⟩ := hrel
          obtain ⟨wx, hwx⟩ : ∃ wx : World, wx = wr := ⟨_, rfl⟩
          subst hwx
          by_cases hjl : j < acc.length
          · obtain ⟨g, o, rfl, hgl, d0⟩ := StrsV.cell (SlV.keep hS hbj) hjl
            have hjI : (j : Int) < (acc.length : Int) := by omega
            have hcmp : Op.bytesLess (B acc[j]).toList (B n).toList = decide (acc[j] < n) := by rw [bytesLess_eq, toList_L, toList_L, Idn.L_B, Idn.L_B]
            have i1 := cell_regrown (cell_later hbj c0)
            have j1 := cell_regrown d0
            by_cases hlt2 : acc[j] < n
            · have HB : Hid (∀ (i : Nat) (x : Bs), i < j + 1 → acc[i]? = some x → x < n) := by
                intro i x hi hxi
                by_cases e : i = j
                · subst e
                  rw [List.getElem?_eq_getElem hjl] at hxi
                  injection hxi with hxi
                  exact hxi ▸ hlt2
                · exact hbef.out i x (by omega) hxi
              rw [decide_eq_true hlt2] at hcmp
              clear hbef hlt2
              go_wp2
              refine wp_region_quiet_below (by kernel_rfl) (by kernel_rfl) ?_
              repeat (first | go_big_quiet_step ((fail)) | quiet_step ((fail)))
              refine wpQuiet_nil ?_
              intro _ hw'
              obtain ⟨⟨dq, osq⟩, hw''⟩ := hw'
              subst hw''
              have hb4 := below_regrown wx dq osq
              generalize grow (redrawn wx dq) osq = W4 at hb4 ⊢
              go_wp2
              go_roundw
              case rel => exact ⟨j + 1, by omega, by go_num, hbj.trans (hb4.mono hbj.size), HB⟩
              case measure => simp [intOf]; omega
            · have HA : Hid (∀ x, acc[j]? = some x → ¬ x < n) := by
                intro x hxj
                rw [List.getElem?_eq_getElem hjl] at hxj
                injection hxj with hxj
                exact hxj ▸ hlt2
              rw [decide_eq_false hlt2] at hcmp
              clear hlt2
              go_wp2
              refine wp_region_quiet_below (by kernel_rfl) (by kernel_rfl) ?_
              repeat (first | go_big_quiet_step ((fail)) | quiet_step ((fail)))
              refine wpQuiet_nil ?_
              intro _ hw'
              obtain ⟨⟨dq, osq⟩, hw''⟩ := hw'
              subst hw''
              have hb4 := below_regrown wx dq osq
              generalize grow (redrawn wx dq) osq = W4 at hb4 ⊢
              go_wp2
              go_meet
              exact ⟨j, rfl, hj, hbj.trans (hb4.mono hbj.size), hbef, HA⟩
          · have hjI : ¬ (j : Int) < (acc.length : Int) := by omega
            have HA : Hid (∀ x, acc[j]? = some x → ¬ x < n) := by
              intro x hxj
              rw [List.getElem?_eq_none (by omega)] at hxj
              cases hxj
            go_wp2
            refine wp_region_quiet_below (by kernel_rfl) (by kernel_rfl) ?_
            repeat (first | go_big_quiet_step ((fail)) | quiet_step ((fail)))
            refine wpQuiet_nil ?_
            intro _ hw'
            obtain ⟨⟨dq, osq⟩, hw''⟩ := hw'
            subst hw''
            have hb4 := below_regrown wx dq osq
            generalize grow (redrawn wx dq) osq = W4 at hb4 ⊢
            go_wp2
            go_meet
            exact ⟨j, rfl, hj, hbj.trans (hb4.mono hbj.size), hbef, HA⟩
      case rest =>
        obtain ⟨j, rfl, hj, hbc, hbef, hat⟩ := hcut
        obtain ⟨wz, hwz⟩ : ∃ wz : World, wz = wc := ⟨_, rfl⟩
        subst hwz
        have hbz := hb.trans (hbc.mono hb.size)
        have hownz := own_below hown hbc
        have hSz := StrsV.of_own hownz
        replace c0 := cell_later hbc c0
        have hil := insS_len n acc
        clear hown hS hb hbc
        have hcase : (∃ h : j < acc.length, acc[j] = n) ∨ (∃ h : j < acc.length, ¬ acc[j] = n) ∨ ¬ j < acc.length := by
          by_cases h : j < acc.length
          · by_cases e : acc[j] = n
            · exact .inl ⟨h, e⟩
            · exact .inr (.inl ⟨h, e⟩)
          · exact .inr (.inr h)
        rcases hcase with ⟨hjl, e⟩ | hcase
        · obtain ⟨g, o, hA, hgl, d0⟩ := StrsV.cell hSz hjl
          have hjI : (j : Int) < (acc.length : Int) := by omega
          have heq : ((B acc[j]).toList == (B n).toList) = true := str_is (by rw [Idn.L_B, Idn.L_B, e])
          have hI : Hid (Idn.insS n acc = acc) := Idn.insS_here n acc j hbef.out (by rw [List.getElem?_eq_getElem hjl, e])
          subst hA
          have i1 := cell_regrown c0
          have j1 := cell_regrown d0
          clear e hbef hat
          try go_wp2_with fail
          refine wp_region_quiet_below (by kernel_rfl) (by kernel_rfl) ?_
          repeat (first | go_big_quiet_step ((fail)) | quiet_step ((fail)))
          refine wpQuiet_nil ?_
          intro _ hw'
          obtain ⟨⟨dq, osq⟩, hw''⟩ := hw'
          subst hw''
          have hb4 := below_regrown wz dq osq
          generalize grow (redrawn wz dq) osq = W4 at hb4 ⊢
          go_wp2
          go_roundw
          case rel => exact ⟨k + 1, acc, by omega, by go_num, own_below hownz hb4, hbz.trans (hb4.mono hbz.size), by show _ = _; rw [HST.out, hI.out], by omega⟩
          case measure => simp [intOf]; omega
        · have hI : Hid (Idn.insS n acc = acc.take j ++ n :: acc.drop j) := Idn.insS_at n acc j hj hbef.out (fun x hx => by
            rcases hcase with ⟨hjl, e⟩ | hjl
            · exact ⟨hat.out x hx, fun ex => e (by rw [List.getElem?_eq_getElem hjl] at hx; injection hx with hx; rw [hx, ex])⟩
            · rw [List.getElem?_eq_none (by omega)] at hx; cases hx)
          have HTL : Hid ((acc.take j).length = j) := by show _ = _; rw [List.length_take]; omega
          have HDL : Hid ((acc.drop j).length = acc.length - j) := List.length_drop
          clear hbef hat
          have i1 := cell_regrown c0
          rcases hcase with ⟨hjl, e⟩ | hjl
          case' inl =>
            obtain ⟨g, o, hA, hgl, d0⟩ := StrsV.cell hSz hjl
            have hjI : (j : Int) < (acc.length : Int) := by omega
            have heq : ((B acc[j]).toList == (B n).toList) = false := str_not (by rw [Idn.L_B, Idn.L_B]; exact e)
            subst hA
            generalize acc[j] = aj at *
            have j1 := cell_regrown d0
            clear e
            try go_wp2_with fail
            refine wp_region_quiet_below (by kernel_rfl) (by kernel_rfl) ?_
            repeat (first | go_big_quiet_step ((fail)) | quiet_step ((fail)))
            refine wpQuiet_nil ?_
            intro _ hw'
            obtain ⟨⟨dq, osq⟩, hw''⟩ := hw'
            subst hw''
            have hb4 := below_regrown wz dq osq
            generalize grow (redrawn wz dq) osq = W4 at hb4 ⊢
            clear hjI heq j1 d0 hgl
          case' inr =>
            have hjI : ¬ (j : Int) < (acc.length : Int) := by omega
            try go_wp2_with fail
            refine wp_region_quiet_below (by kernel_rfl) (by kernel_rfl) ?_
            repeat (first | go_big_quiet_step ((fail)) | quiet_step ((fail)))
            refine wpQuiet_nil ?_
            intro _ hw'
            obtain ⟨⟨dq, osq⟩, hw''⟩ := hw'
            subst hw''
            have hb4 := below_regrown wz dq osq
            generalize grow (redrawn wz dq) osq = W4 at hb4 ⊢
            clear hjI
          all_goals
            clear hjl
            have hown4 := own_below hownz hb4
            have hbw4 := hbz.trans (hb4.mono hbz.size)
            have hS4 := StrsV.of_own hown4
            replace c0 := cell_later hb4 c0
            have hw4 := hbw4.size
            clear i1 hownz hSz hbz hb4
            obtain ⟨A1, c1, hT, hT1⟩ := take_run hS4 hj
            obtain ⟨A2, c2, hD, hD1⟩ := drop_run hS4 hj
            clear hown4 hS4
            go_upto_region 9 with fail
            have ba : Below W4.heap.size W4 (W4.alloc (.cells #[] 9)) := (Below.refl _ _).alloc (Nat.le_refl _) _
            have hT2 := SlV.keep hT1 ba
            have hlit := World.ownsRow_lit (base := W4.heap.size) (e := 9) (size := 1) W4 #[] 0 (Nat.le_refl _) (by decide) rfl
            go_wp2_with (at_builtin; refine wpList_appendS rfl _ _ 23 rfl W4.heap.size 9 Tryz.underlying23 info_str _ 0 [] hlit rfl _ (acc.take j) _ hT2 (by first | rfl | simp) (by rw [HTL.out]; omega) ba.size ?_)
            intro v1 x1 ho1 hx1' _ _
            have hx1 := ba.trans hx1'
            replace ho1 : x1.ownsRow W4.heap.size 9 1 v1 j ((acc.take j).map sv) := by rw [List.map_take]; exact ho1
            have hD2 := SlV.keep hD1 hx1
            have hs1 := hx1.size
            replace c0 := cell_later hx1 c0
            go_wp2_with (at_builtin; refine wpList_push x1 rfl _ _ 23 rfl W4.heap.size 9 (.string ⟨#[]⟩) 1 16 Tryz.underlying23 info_str rfl (by decide) _ _ _ ho1 rfl [.string (B n)] rfl rfl (by intro u hu; simp at hu; subst hu; rfl) (by omega) hs1 ?_ rfl)
            intro v2 x2 ho2 _ _ hx2 _
            replace ho2 : x2.ownsRow W4.heap.size 9 1 v2 (j + 1) ((acc.take j).map sv ++ [.string (B n)]) := by rw [List.map_take]; exact ho2
            have hD3 := SlV.keep hD2 hx2
            have hx12 := hx1.trans hx2
            have hs2 := hx12.size
            go_wp2_with (at_builtin; refine wpList_appendS rfl _ _ 23 rfl W4.heap.size 9 Tryz.underlying23 info_str _ _ _ ho2 rfl _ (acc.drop j) _ hD3 (by first | rfl | simp) (by rw [HDL.out]; omega) hs2 ?_)
            intro v3 x3 ho3 hx3 _ _
            have hx13 := hx12.trans hx3
            go_wp2
            go_roundw
            case rel =>
              refine ⟨k + 1, Idn.insS n acc, by omega, by go_num, own_base (own_cast ho3 ?_ ?_) hw4, hbw4.trans (hx13.mono hw4), HST, by omega⟩
              · rw [hI.out, List.length_append, List.length_cons, HTL.out, HDL.out]; omega
              · rw [hI.out]; simp [sv]
            case measure => simp [intOf]; omega
    · have hltI : ¬ (k : Int) < (l.length : Int) := by omega
      have HF : Hid (res = acc) := by show _ = _; rw [hinv.out, List.drop_eq_nil_of_le (by omega)]; rfl
      clear hinv
      go_wp2
      go_ret
      exact ⟨_, rfl, by rw [HF.out]; exact hown, hb⟩
set_option maxHeartbeats 4000000 in
set_option maxRecDepth 100000 in
theorem r9_named_any : ∀ (d : Nat) (v : Value) (f : Flt) (w : World), FltV w w.heap.size d v f → FSm 1000 f → Calls Tryz.prog 51 #[v] w (RetL w (fNamed f)) := by
  intro d
  induction d using Nat.strongRecOn with
  | _ d ih =>
  intro v f w hv hs
  obtain ⟨Ap, cp, Ak, ck, rfl, hp, hk⟩ := hv.shape
  have hks := hs.kids
  have hkl := hks.len
  have hs1 := hs.1
  obtain ⟨o1, _, _, _⟩ := fOk_own hs.2
  have kC := fun W => r9_comp_any f.kind W
  have kL := fun W => r_lower_any (B f.name) W (by rw [Idn.size_B]; omega)
  simp only [Idn.L_B] at kL
  have HN : Hid (fNamed f = (if isCmp f.kind then [Idn.lower f.name] else []) ++ fNameds f.kids) := fNamed_unf f
  have hz : fSize f = fSizes f.kids + 1 := by cases f; rfl
  generalize isCmp f.kind = r5 at *
  generalize Idn.lower f.name = ln at *
  generalize fNamed f = R at *
  clear hp hv
  go_enter Tryz.func51, Tryz.ntmps51
  go_upto_region 1 with fail
  with_reducible refine gen1 (R := fun W => Code.wp Tryz.prog _ _ _ W) ?_
  intro W hbW hszW hc _
  have b0 : W.cell? ⟨w.heap.size, 0, none⟩ = some (.int .i64 f.kind) := hc 0 _ rfl
  have b1 : W.cell? ⟨w.heap.size, 1, none⟩ = some (.string (B f.name)) := hc 1 _ rfl
  have b4 : W.cell? ⟨w.heap.size, 4, none⟩ = some (.slice Ak f.kids.length ck) := hc 4 _ rfl
  have hwW := hbW.size
  clear hc hszW
  have HX : ∃ l0 : List Bs, l0.length ≤ 1 ∧ Hid (R = l0 ++ fNameds f.kids) ∧ Hid (l0 = if r5 then [ln] else []) := ⟨if r5 then [ln] else [], by split <;> simp, HN, rfl⟩
  obtain ⟨l0, hl0, HN2, HL0⟩ := HX
  clear HN
  go_wp2_with fail
  refine (kC W).mono ?_
  rintro e wd ⟨rfl, rfl⟩
  clear kC b0
  cases r5
  case' false =>
    have hst : ∃ acc : List Bs, W.ownsRow W.heap.size 9 1 (.slice none 0 0) acc.length (acc.map sv) ∧ acc = l0 := ⟨[], World.ownsRow_nil _ _ _ _, HL0.out.symm⟩
    have hbX := Below.refl W.heap.size W
    clear kL b1 HL0
    go_wp2_with fail
  case' true =>
    have hL := kL W
    clear kL
    go_wp2_with fail
    refine hL.mono ?_
    rintro e w1 ⟨rfl, hb1⟩
    have hs1 := hb1.size
    clear hL b1
    go_wp2_with (at_builtin; refine wpList_push w1 rfl _ _ 23 rfl W.heap.size 9 (.string ⟨#[]⟩) 1 16 Tryz.underlying23 info_str rfl (by decide) _ 0 [] (World.ownsRow_nil _ _ _ _) rfl [.string (B ln)] rfl rfl (by intro u hu; simp at hu; subst hu; rfl) (by omega) hs1 ?_ rfl)
    intro v2 x2 ho2 _ _ hx2 _
    have hst : ∃ acc : List Bs, x2.ownsRow W.heap.size 9 1 v2 acc.length (acc.map sv) ∧ acc = l0 := ⟨[ln], ho2, HL0.out.symm⟩
    have hbX := hb1.trans hx2
    clear ho2 HL0 hb1 hx2
    go_wp2_with fail
  all_goals
    obtain ⟨acc0, hown0, hacc0⟩ := hst
    go_loopw [3, 4] (fun u i wr => ∃ (k : Nat) (a : List Bs), k ≤ f.kids.length ∧ i = .int .i64 k ∧ wr.ownsRow W.heap.size 9 1 u a.length (a.map sv) ∧ Below W.heap.size W wr ∧ Hid (a = l0 ++ fNameds (f.kids.take k)) ∧ a.length + fSizes (f.kids.drop k) ≤ 2000) (fun _ i _ => f.kids.length - (intOf i).toNat)
    case atStart => exact ⟨0, acc0, Nat.zero_le _, rfl, hown0, hbX, by show _ = _; rw [hacc0]; simp [fNameds], by rw [hacc0, List.drop_zero]; omega⟩
    case round =>
      clear hown0 hbX
      obtain ⟨k, a, hk9, rfl, hown, hbr, hinv, hal⟩ := hrel
      obtain ⟨wo, hwo⟩ : ∃ wo : World, wo = wr := ⟨_, rfl⟩
      subst hwo
      have hb := hbW.trans (hbr.mono hwW)
      replace b4 := cell_later hbr b4
      by_cases hlt : k < f.kids.length
      · obtain ⟨g, off, Ap', cp', Ak', ck', hA, hg, c0, c1, c2, c3, c4, hd, hkid⟩ := FltsV.kid2 (FltsV.keep hk hb) hlt
        subst hA
        have hltI : (k : Int) < (f.kids.length : Int) := by omega
        have hmem := List.getElem_mem hlt
        have hcall := ih (d - 1) (by omega) _ f.kids[k] wo (FltV.mono hkid hb.size) (hks.mem hmem)
        have hdr : fSizes (f.kids.drop k) = fSize f.kids[k] + fSizes (f.kids.drop (k + 1)) := by rw [List.drop_eq_getElem_cons hlt, fSizes]
        have hnl := fNamed_len f.kids[k]
        have HV : Hid (a ++ fNamed f.kids[k] = l0 ++ fNameds (f.kids.take (k + 1))) := by
          show _ = _
          rw [hinv.out, List.take_succ_eq_append_getElem hlt, fNameds_eq, fNameds_eq, List.flatMap_append, List.append_assoc]
          simp
        generalize fNamed f.kids[k] = kn at *
        have HL : Hid ((a ++ kn).length + fSizes (f.kids.drop (k + 1)) ≤ 2000) := by
          show _ ≤ _
          rw [List.length_append]; omega
        have hb9 : a.length + kn.length ≤ 2000 := by omega
        obtain ⟨Au, cu, hu⟩ := own_shape hown
        subst hu
        clear hkid ih hk hinv hdr hnl hal
        go_wp2_with fail
        refine hcall.mono ?_
        rintro e w6 ⟨v6, rfl, hown6, hb6⟩
        have hS6 := StrsV.of_own hown6
        obtain ⟨A6, c6, hv6⟩ := own_shape hown6
        subst hv6
        have hownr := own_below hown hb6
        have hbr6 := hbr.trans (hb6.mono hbr.size)
        have hs6 := hbr6.size
        clear hcall c0 c1 c2 c3 c4 hown hown6
        go_wp2_with (at_builtin; refine wpList_appendS rfl _ _ 23 rfl W.heap.size 9 Tryz.underlying23 info_str _ _ _ hownr rfl _ kn _ hS6 (by first | rfl | simp) (by omega) hs6 ?_)
        intro v7 x7 ho7 hx7 _ _
        go_wp2
        go_roundw
        case rel => exact ⟨k + 1, a ++ kn, by omega, by go_num, by rw [List.length_append, List.map_append]; exact ho7, hbr6.trans hx7, HV, HL.out⟩
        case measure => simp [intOf]; omega
      · have hltI : ¬ (k : Int) < (f.kids.length : Int) := by omega
        have HV : Hid (R = a) := by
          show _ = _
          rw [hinv.out, HN2.out, List.take_of_length_le (by omega)]
        clear hinv HN2
        go_wp2_with fail
        go_ret
        exact ⟨_, rfl, by rw [HV.out]; exact own_base hown hwW, hb⟩
set_option maxHeartbeats 2000000 in
set_option maxRecDepth 100000 in
theorem r9_Names_any (d : Nat) (v : Value) (f : Flt) (w : World) (hv : FltV w w.heap.size d v f) (hs : FSm 1000 f) : Calls Tryz.prog 26 #[v] w (RetL w (fNames f)) := by
  have kC := fun W (hW : Below w.heap.size w W) => r9_Check_any d _ f W (hv.on hW) hs
  have kN := fun W (hW : Below w.heap.size w W) => r9_named_any d _ f W (hv.on hW) hs
  have hnl := fNamed_len f
  have hs1 := hs.1
  have HR : Hid (fNames f = if fCheck f != 0 then [] else Idn.insAll (fNamed f)) := rfl
  obtain ⟨Ap, cp, Ak, ck, rfl, hp, hk⟩ := hv.shape
  generalize fNames f = R at *
  generalize fCheck f = ec at *
  generalize fNamed f = nm at *
  clear hp hk hv hs
  go_enter Tryz.func26, Tryz.ntmps26
  go_upto_region 1 with fail
  with_reducible refine gen1 (R := fun W => Code.wp Tryz.prog _ _ _ W) ?_
  intro W hbW hszW hc1 _
  have b0 : W.cell? ⟨w.heap.size, 0, none⟩ = some (.int .i64 f.kind) := hc1 0 _ rfl
  have b1 : W.cell? ⟨w.heap.size, 1, none⟩ = some (.string (B f.name)) := hc1 1 _ rfl
  have b2 : W.cell? ⟨w.heap.size, 2, none⟩ = some (.string (B f.value)) := hc1 2 _ rfl
  have b3 : W.cell? ⟨w.heap.size, 3, none⟩ = some (.slice Ap f.parts.length cp) := hc1 3 _ rfl
  have b4 : W.cell? ⟨w.heap.size, 4, none⟩ = some (.slice Ak f.kids.length ck) := hc1 4 _ rfl
  clear hc1 hszW
  go_wp2_with fail
  refine (kC W hbW).mono ?_
  rintro e w1 ⟨rfl, hb1⟩
  replace b0 := cell_later hb1 b0
  replace b1 := cell_later hb1 b1
  replace b2 := cell_later hb1 b2
  replace b3 := cell_later hb1 b3
  replace b4 := cell_later hb1 b4
  have hbw1 := hbW.trans (hb1.mono hbW.size)
  clear kC hb1 hbW
  by_cases hec : ec = 0
  case neg =>
    have hI : (ec != 0) = true := by simpa using hec
    have HF : Hid (R = []) := by show _ = _; rw [HR.out, hI]; rfl
    clear HR kN hec
    go_wp2_with fail
    go_ret
    rw [HF.out]
    exact ⟨_, rfl, World.ownsRow_nil _ _ _ _, hbw1⟩
  have hI : (ec != 0) = false := by simpa using hec
  have HF : Hid (R = Idn.insAll nm) := by show _ = _; rw [HR.out, hI]; rfl
  clear HR hec
  go_wp2_with fail
  refine (kN w1 hbw1).mono ?_
  rintro e w2 ⟨v2, rfl, hown2, hb2⟩
  have hA := r9_Asc_any v2 nm w2 (StrsV.of_own hown2) (by omega)
  have hbw2 := hbw1.trans (hb2.mono hbw1.size)
  clear kN hown2 b0 b1 b2 b3 b4
  go_wp2_with fail
  refine hA.mono ?_
  rintro e w3 ⟨v3, rfl, hown3, hb3⟩
  go_wp2_with fail
  go_ret
  exact ⟨_, rfl, by rw [HF.out]; exact own_base hown3 hbw2.size, hbw2.trans (hb3.mono hbw2.size)⟩
end Go.Proofs.YtmamnmjfbadiiaaGreatDoor
/- law09: FilterNames. -/
namespace Go.Proofs.YtmamnmjfbadiiaaGreatDoor
open Go.RowKit Go.Sort
open Idn (L B Bs drop_L take_L size_L)
set_option maxHeartbeats 8000000 in
set_option maxRecDepth 100000 in
theorem filterNames_any (d : Nat) (v : Value) (f : Flt) (d' : Nat) (u : Value) (g : Flt) (w : World) (hv : FltV w w.heap.size d v f) (hl : fLen f) (hu : FltV w w.heap.size d' u g) (hm : fLen g) (hE : Env w) (hU : EnvU w) :
    Calls Tryz.prog 6 #[v, u] w fun e w' => e = .returned (.bool true) ∧ Below w.heap.size w w' := by
  have kG := fun W (hW : Below w.heap.size w W) => r9_Great_any d v f 80 W (hv.on hW) hl (by decide)
  have kH := fun W (hW : Below w.heap.size w W) => r9_Great_any d' u g 80 W (hu.on hW) hm (by decide)
  have kL := fun W (hW : Below w.heap.size w W) => live9_any W (hE.keep hW) (hU.keep hW)
  obtain ⟨rq, hrq⟩ := bool_of (f = g)
  have k1 := fun (hs : FSm 1000 f) W (hW : Below w.heap.size w W) => fNames_any d v f W (hv.on hW) hs
  have k2 := fun (hs : FSm 1000 f) W (hW : Below w.heap.size w W) => r9_Names_any d v f W (hv.on hW) hs
  have k3 := fun (hs : FSm 1000 f) (hs' : FSm 1000 g) W (hW : Below w.heap.size w W) => fEqual_any d d' v u f g rq W (hv.on hW) (hu.on hW) hs hs' hrq
  have k4 := fun (hs : FSm 1000 f) (hs' : FSm 1000 g) W (hW : Below w.heap.size w W) => r9_Equal_any d d' v u f g rq W (hv.on hW) (hu.on hW) hs hs' hrq
  have k5 := fun (hs : FSm 1000 f) W (hW : Below w.heap.size w W) => fEqual_any d d v v f f true W (hv.on hW) (hv.on hW) hs hs (iff_of_true rfl rfl)
  have hnl : ∀ hs : FSm 1000 f, (fNames f).length ≤ 1000000000 := fun hs => by
    have h1 := fNamed_len f
    have h2 := hs.1
    unfold fNames
    split
    · simp
    · have := insAll_len (fNamed f); omega
  obtain ⟨Ap, cp, Ak, ck, rfl, hp, hk⟩ := hv.shape
  obtain ⟨Aq, cq', Al, cl, rfl, hq, hk'⟩ := hu.shape
  clear hp hk hv hq hk' hu hrq
  go_enter Tryz.func6, Tryz.ntmps6
  go_upto_region 1 with fail
  with_reducible refine gen2 (R := fun W => Code.wp Tryz.prog _ _ _ W) ?_
  intro W hbW hszW hc1 hc2
  have x0 : W.cell? ⟨w.heap.size, 0, none⟩ = some (.int .i64 f.kind) := hc1 0 _ rfl
  have x1 : W.cell? ⟨w.heap.size, 1, none⟩ = some (.string (B f.name)) := hc1 1 _ rfl
  have x2 : W.cell? ⟨w.heap.size, 2, none⟩ = some (.string (B f.value)) := hc1 2 _ rfl
  have x3 : W.cell? ⟨w.heap.size, 3, none⟩ = some (.slice Ap f.parts.length cp) := hc1 3 _ rfl
  have x4 : W.cell? ⟨w.heap.size, 4, none⟩ = some (.slice Ak f.kids.length ck) := hc1 4 _ rfl
  have y0 : W.cell? ⟨w.heap.size + 1, 0, none⟩ = some (.int .i64 g.kind) := hc2 0 _ rfl
  have y1 : W.cell? ⟨w.heap.size + 1, 1, none⟩ = some (.string (B g.name)) := hc2 1 _ rfl
  have y2 : W.cell? ⟨w.heap.size + 1, 2, none⟩ = some (.string (B g.value)) := hc2 2 _ rfl
  have y3 : W.cell? ⟨w.heap.size + 1, 3, none⟩ = some (.slice Aq g.parts.length cq') := hc2 3 _ rfl
  have y4 : W.cell? ⟨w.heap.size + 1, 4, none⟩ = some (.slice Al g.kids.length cl) := hc2 4 _ rfl
  clear hc1 hc2 hszW
  go_wp2_with fail
  refine (kG W hbW).mono ?_
  rintro e w1 ⟨r, rfl, hr, hb1⟩
  replace x0 := cell_later hb1 x0
  replace x1 := cell_later hb1 x1
  replace x2 := cell_later hb1 x2
  replace x3 := cell_later hb1 x3
  replace x4 := cell_later hb1 x4
  replace y0 := cell_later hb1 y0
  replace y1 := cell_later hb1 y1
  replace y2 := cell_later hb1 y2
  replace y3 := cell_later hb1 y3
  replace y4 := cell_later hb1 y4
  have hb := hbW.trans (hb1.mono hbW.size)
  have HS := Lib.hid hr
  clear kG hbW hb1 hr
  cases r
  case true =>
    clear k1 k2 k3 k4 k5 kH HS x0 x1 x2 x3 x4 y0 y1 y2 y3 y4 hnl
    go_wp2_with fail
    refine (kL w1 hb).mono ?_
    rintro e w2 ⟨rfl, hb2⟩
    go_wp2_with fail
    go_ret
    exact ⟨rfl, hb.trans (hb2.mono hb.size)⟩
  have GS := Lib.hid (HS.out rfl)
  clear HS
  go_wp2_with fail
  refine (kH w1 hb).mono ?_
  rintro e w2 ⟨r2, rfl, hr2, hb2⟩
  replace x0 := cell_later hb2 x0
  replace x1 := cell_later hb2 x1
  replace x2 := cell_later hb2 x2
  replace x3 := cell_later hb2 x3
  replace x4 := cell_later hb2 x4
  replace y0 := cell_later hb2 y0
  replace y1 := cell_later hb2 y1
  replace y2 := cell_later hb2 y2
  replace y3 := cell_later hb2 y3
  replace y4 := cell_later hb2 y4
  have hbw := hb.trans (hb2.mono hb.size)
  have HS2 := Lib.hid hr2
  clear kH hb hb2 hr2
  cases r2
  case true =>
    clear k1 k2 k3 k4 k5 GS HS2 x0 x1 x2 x3 x4 y0 y1 y2 y3 y4 hnl
    go_wp2_with fail
    refine (kL w2 hbw).mono ?_
    rintro e w3 ⟨rfl, hb3⟩
    go_wp2_with fail
    go_ret
    exact ⟨rfl, hbw.trans (hb3.mono hbw.size)⟩
  have hs : FSm 1000 f := GS.out.up (by decide)
  have hs' : FSm 1000 g := (HS2.out rfl).up (by decide)
  replace k1 := k1 hs
  replace k2 := k2 hs
  replace k3 := k3 hs hs'
  replace k4 := k4 hs hs'
  replace k5 := k5 hs
  replace hnl := hnl hs
  clear hs hs' GS HS2 hE hU hl hm
  generalize fNames f = nm at *
  have hSt : ∀ W', Below w2.heap.size w2 W' → (W'.cell? ⟨w.heap.size, 0, none⟩ = some (.int .i64 f.kind) ∧ W'.cell? ⟨w.heap.size, 1, none⟩ = some (.string (B f.name)) ∧ W'.cell? ⟨w.heap.size, 2, none⟩ = some (.string (B f.value)) ∧ W'.cell? ⟨w.heap.size, 3, none⟩ = some (.slice Ap f.parts.length cp) ∧ W'.cell? ⟨w.heap.size, 4, none⟩ = some (.slice Ak f.kids.length ck) ∧ W'.cell? ⟨w.heap.size + 1, 0, none⟩ = some (.int .i64 g.kind) ∧ W'.cell? ⟨w.heap.size + 1, 1, none⟩ = some (.string (B g.name)) ∧ W'.cell? ⟨w.heap.size + 1, 2, none⟩ = some (.string (B g.value)) ∧ W'.cell? ⟨w.heap.size + 1, 3, none⟩ = some (.slice Aq g.parts.length cq') ∧ W'.cell? ⟨w.heap.size + 1, 4, none⟩ = some (.slice Al g.kids.length cl) ∧ Below w2.heap.size w2 W') := fun W' hW =>
    ⟨cell_later hW x0, cell_later hW x1, cell_later hW x2, cell_later hW x3, cell_later hW x4, cell_later hW y0, cell_later hW y1, cell_later hW y2, cell_later hW y3, cell_later hW y4, hW⟩
  have d1 := fun W (hW : Below w2.heap.size w2 W) => k1 W (hbw.trans (hW.mono hbw.size))
  have d2 := fun W (hW : Below w2.heap.size w2 W) => k2 W (hbw.trans (hW.mono hbw.size))
  have d3 := fun W (hW : Below w2.heap.size w2 W) => k3 W (hbw.trans (hW.mono hbw.size))
  have d4 := fun W (hW : Below w2.heap.size w2 W) => k4 W (hbw.trans (hW.mono hbw.size))
  have d5 := fun W (hW : Below w2.heap.size w2 W) => k5 W (hbw.trans (hW.mono hbw.size))
  have d6 := fun W (hW : Below w2.heap.size w2 W) => kL W (hbw.trans (hW.mono hbw.size))
  have dS := fun (u v : Value) W (hu : StrsV W W.heap.size u nm) (hv : StrsV W W.heap.size v nm) => r2_same_any u v nm nm true (iff_of_true rfl rfl) W hu hv hnl hnl
  have t1 : (rq == rq) = true := by cases rq <;> rfl
  clear k1 k2 k3 k4 k5 kL x0 x1 x2 x3 x4 y0 y1 y2 y3 y4 hnl
  go_wp2_with fail
  go_region_held3 (fun W' => (W'.cell? ⟨w.heap.size, 0, none⟩ = some (.int .i64 f.kind) ∧ W'.cell? ⟨w.heap.size, 1, none⟩ = some (.string (B f.name)) ∧ W'.cell? ⟨w.heap.size, 2, none⟩ = some (.string (B f.value)) ∧ W'.cell? ⟨w.heap.size, 3, none⟩ = some (.slice Ap f.parts.length cp) ∧ W'.cell? ⟨w.heap.size, 4, none⟩ = some (.slice Ak f.kids.length ck) ∧ W'.cell? ⟨w.heap.size + 1, 0, none⟩ = some (.int .i64 g.kind) ∧ W'.cell? ⟨w.heap.size + 1, 1, none⟩ = some (.string (B g.name)) ∧ W'.cell? ⟨w.heap.size + 1, 2, none⟩ = some (.string (B g.value)) ∧ W'.cell? ⟨w.heap.size + 1, 3, none⟩ = some (.slice Aq g.parts.length cq') ∧ W'.cell? ⟨w.heap.size + 1, 4, none⟩ = some (.slice Al g.kids.length cl) ∧ Below w2.heap.size w2 W'))
    (first | (refine hSt _ ?_; repeat (first | with_reducible exact Below.refl _ _ | with_reducible apply Below.drew | with_reducible refine Below.on ?_ ha1 | with_reducible refine Below.on ?_ ha2 | with_reducible refine Below.on ?_ ha3 | with_reducible refine Below.on ?_ ha4 | with_reducible refine Below.on ?_ ha5 | with_reducible refine Below.on ?_ ha6 | with_reducible refine Below.on ?_ ha7)))
    (first
      | (go_at_call 25; refine (d1 _ (by repeat (first | with_reducible exact Below.refl _ _ | with_reducible apply Below.drew))).mono ?_; rintro e x1 ⟨v1, rfl, o1, ha1⟩; have r1 := StrsV.of_own (l := nm) o1; obtain ⟨A1, z1, hz1⟩ := own_shape o1; subst hz1; clear o1)
      | (go_at_call 26; refine (d2 _ (by repeat (first | with_reducible exact Below.refl _ _ | with_reducible apply Below.drew | with_reducible refine Below.on ?_ ha1))).mono ?_; rintro e x2 ⟨v2, rfl, o2, ha2⟩; have r2 := StrsV.of_own (l := nm) o2; obtain ⟨A2, z2, hz2⟩ := own_shape o2; subst hz2; clear o2)
      | (go_at_call 24; with_reducible refine (dS _ _ _ (SlV.mono (SlV.keep r1 ha2) ha2.size) r2).mono ?_; rintro e x3 ⟨rfl, ha3⟩)
      | (go_at_call 27; have _hx := ha5; with_reducible refine (d5 _ (by repeat (first | with_reducible exact Below.refl _ _ | with_reducible apply Below.drew | with_reducible refine Below.on ?_ ha1 | with_reducible refine Below.on ?_ ha2 | with_reducible refine Below.on ?_ ha3 | with_reducible refine Below.on ?_ ha4 | with_reducible refine Below.on ?_ ha5))).mono ?_; rintro e x6 ⟨rfl, ha6⟩)
      | (go_at_call 27; with_reducible refine (d3 _ (by repeat (first | with_reducible exact Below.refl _ _ | with_reducible apply Below.drew | with_reducible refine Below.on ?_ ha1 | with_reducible refine Below.on ?_ ha2 | with_reducible refine Below.on ?_ ha3))).mono ?_; rintro e x4 ⟨rfl, ha4⟩)
      | (go_at_call 19; with_reducible refine (d4 _ (by repeat (first | with_reducible exact Below.refl _ _ | with_reducible apply Below.drew | with_reducible refine Below.on ?_ ha1 | with_reducible refine Below.on ?_ ha2 | with_reducible refine Below.on ?_ ha3 | with_reducible refine Below.on ?_ ha4))).mono ?_; rintro e x5 ⟨rfl, ha5⟩)
      | (go_at_call 11; refine (d6 _ (by repeat (first | with_reducible exact Below.refl _ _ | with_reducible apply Below.drew | with_reducible refine Below.on ?_ ha1 | with_reducible refine Below.on ?_ ha2 | with_reducible refine Below.on ?_ ha3 | with_reducible refine Below.on ?_ ha4 | with_reducible refine Below.on ?_ ha5 | with_reducible refine Below.on ?_ ha6))).mono ?_; rintro e x7 ⟨rfl, ha7⟩))
  all_goals
    have hfin : Below w2.heap.size w2 x7 := by repeat (first | with_reducible exact Below.refl _ _ | with_reducible apply Below.drew | with_reducible refine Below.on ?_ ha1 | with_reducible refine Below.on ?_ ha2 | with_reducible refine Below.on ?_ ha3 | with_reducible refine Below.on ?_ ha4 | with_reducible refine Below.on ?_ ha5 | with_reducible refine Below.on ?_ ha6 | with_reducible refine Below.on ?_ ha7)
    go_wp2_with fail
    go_ret
    exact ⟨rfl, hbw.trans (hfin.mono hbw.size)⟩
end Go.Proofs.YtmamnmjfbadiiaaGreatDoor
