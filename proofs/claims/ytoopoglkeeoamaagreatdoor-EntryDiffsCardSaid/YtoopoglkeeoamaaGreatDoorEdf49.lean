/- Part 49 of the proof that EntryDiffs: the package variables hold what the program lays; nothing else is asked. -/
import Derived.Test.YtoopoglkeeoamaaGreatDoorEdf09
import Derived.Test.YtoopoglkeeoamaaGreatDoorEdf33
import Derived.Test.YtoopoglkeeoamaaGreatDoorEdf43
import Derived.Test.YtoopoglkeeoamaaGreatDoorEdf44
import Derived.Test.YtoopoglkeeoamaaGreatDoorEdf47
import Derived.Test.YtoopoglkeeoamaaGreatDoorEdf48
set_option linter.unusedVariables false
set_option linter.unusedSimpArgs false
/- identityref08: Diff. -/
namespace Go.Proofs.YtoopoglkeeoamaaGreatDoor
open Go.RowKit Go.Sort
open Idn (L B Bs drop_L take_L size_L)
theorem rd_left (a : Idn.Att) (x : List Idn.Att) : rDiffK (a :: x) [] = ⟨2, a.name, []⟩ :: rDiffK x [] := by rw [rDiffK]
theorem rd_right (b : Idn.Att) (y : List Idn.Att) : rDiffK [] (b :: y) = ⟨1, b.name, b.vals⟩ :: rDiffK [] y := by rw [rDiffK]
theorem rd_lt {a b : Idn.Att} (x y : List Idn.Att) (h : a.name < b.name) : rDiffK (a :: x) (b :: y) = ⟨2, a.name, []⟩ :: rDiffK x (b :: y) := by rw [rDiffK, if_pos h]
theorem rd_gt {a b : Idn.Att} (x y : List Idn.Att) (h : ¬ a.name < b.name) (h2 : b.name < a.name) : rDiffK (a :: x) (b :: y) = ⟨1, b.name, b.vals⟩ :: rDiffK (a :: x) y := by rw [rDiffK, if_neg h, if_pos h2]
theorem rd_eq {a b : Idn.Att} (x y : List Idn.Att) (h : ¬ a.name < b.name) (h2 : ¬ b.name < a.name) : rDiffK (a :: x) (b :: y) = rDif a b ++ rDiffK x y := by rw [rDiffK, if_neg h, if_neg h2]
theorem rd_none : rDiffK [] [] = [] := by rw [rDiffK]
theorem drop_fst {α β : Type} (ps : List (α × β)) (i : Nat) (h : i < ps.length) : (ps.drop i).map (·.1) = ps[i].1 :: (ps.drop (i + 1)).map (·.1) := by
  rw [List.drop_eq_getElem_cons h]; rfl
theorem drop_fst0 {α β : Type} (ps : List (α × β)) (i : Nat) (h : ¬ i < ps.length) : (ps.drop i).map (·.1) = [] := by
  rw [List.drop_eq_nil_of_le (by omega)]; rfl
theorem rEDiff_unf (n : Bs) (l : List Idn.Att) (m : Bs) (k : List Idn.Att) : eDiff n l m k = if eCheck n l != 0 || eCheck m k != 0 then [] else rDiffK (Idn.rSorted l) (Idn.rSorted k) := (rEDiff_eq n l m k).symm
/-- modifications that read -/
def RetMv (w : World) (l : List Md) (e : Ending) (w' : World) : Prop := ∃ r, e = .returned r ∧ ModsV w' w'.heap.size r l ∧ Below w.heap.size w w'
set_option maxHeartbeats 8000000 in
set_option maxRecDepth 100000 in
theorem r8_Diff_any (n m : ByteArray) (a b : Value) (l k : List Idn.Att) (w : World) (ha : AttsV w w.heap.size a l) (hb : AttsV w w.heap.size b k) (hn : n.size ≤ 1000000000) (hm : m.size ≤ 1000000000) (hl : ASm l) (hk : ASm k) :
    Calls Tryz.prog 29 #[.agg #[.string n, a], .agg #[.string m, b]] w (RetMv w (eDiff (L n) l (L m) k)) := by
  have hA := fun W (hW : Below w.heap.size w W) => AttsV.mono (AttsV.keep ha hW) hW.size
  have hB := fun W (hW : Below w.heap.size w W) => AttsV.mono (AttsV.keep hb hW) hW.size
  have hC1 := fun W (hW : Below w.heap.size w W) => r8_Check_any n a l W (hA W hW) hn hl
  have hC2 := fun W (hW : Below w.heap.size w W) => r8_Check_any m b k W (hB W hW) hm hk
  have hsm1 := fun h => (⟨(check_sm (n := L n) (l := l) h hl).1, text_sm h⟩ : _ ∧ _)
  have hsm2 := fun h => (⟨(check_sm (n := L m) (l := k) h hk).1, text_sm h⟩ : _ ∧ _)
  have hSa := fun h1 W (hW : Below w.heap.size w W) => r_Sorted_any a l W (hA W hW) h1
  have hSb := fun h1 W (hW : Below w.heap.size w W) => r_Sorted_any b k W (hB W hW) h1
  have HR := Lib.hid (rEDiff_unf (L n) l (L m) k)
  obtain ⟨A, c, rfl, hc⟩ := SlV.shape ha
  obtain ⟨A2, c2, rfl, hc2⟩ := SlV.shape hb
  generalize eDiff (L n) l (L m) k = r at *
  generalize eCheck (L n) l = k1 at *
  generalize eCheck (L m) k = k2 at *
  clear ha hb hA hB
  go_enter Tryz.func29, Tryz.ntmps29
  go_upto_region 1 with fail
  with_reducible refine gen2 (R := fun W => Code.wp Tryz.prog _ _ _ W) ?_
  intro W hbW hszW hc1 hc2'
  have a0 : W.cell? ⟨w.heap.size, 0, none⟩ = some (.string n) := hc1 0 _ rfl
  have a1 : W.cell? ⟨w.heap.size, 1, none⟩ = some (.slice A l.length c) := hc1 1 _ rfl
  have b0 : W.cell? ⟨w.heap.size + 1, 0, none⟩ = some (.string m) := hc2' 0 _ rfl
  have b1 : W.cell? ⟨w.heap.size + 1, 1, none⟩ = some (.slice A2 k.length c2) := hc2' 1 _ rfl
  clear hc1 hc2'
  by_cases h1 : k1 = 0
  case neg =>
    have hI : (k1 != 0) = true := by simpa using h1
    have HF : Hid (r = []) := by show _ = _; rw [HR.out, hI]; rfl
    clear HR h1 hsm1 hsm2 hSa hSb hC2
    go_wp2_with fail
    refine (hC1 W hbW).mono ?_
    rintro e w1 ⟨rfl, hb1⟩
    go_wp2
    go_ret
    exact ⟨_, rfl, by rw [HF.out]; exact SlV.nil _ _ _ _, hbW.trans (hb1.mono hbW.size)⟩
  subst h1
  by_cases h2 : k2 = 0
  case neg =>
    have hI : (k2 != 0) = true := by simpa using h2
    have HF : Hid (r = []) := by show _ = _; rw [HR.out, hI]; rfl
    clear HR h2 hsm1 hsm2 hSa hSb
    go_wp2_with fail
    refine (hC1 W hbW).mono ?_
    rintro e w1 ⟨rfl, hb1⟩
    replace b0 := cell_later hb1 b0
    replace b1 := cell_later hb1 b1
    have hbw1 := hbW.trans (hb1.mono hbW.size)
    clear hC1
    go_wp2_with fail
    refine (hC2 w1 hbw1).mono ?_
    rintro e w2 ⟨rfl, hb2⟩
    go_wp2
    go_ret
    exact ⟨_, rfl, by rw [HF.out]; exact SlV.nil _ _ _ _, hbw1.trans (hb2.mono hbw1.size)⟩
  subst h2
  obtain ⟨s7, sz, sl, se⟩ := hsm1 rfl
  obtain ⟨t7, tz, tl, te⟩ := hsm2 rfl
  rw [← se] at sz sl
  rw [← te] at tz tl
  have HR2 : Hid (r = rDiffK (Idn.rSorted l) (Idn.rSorted k)) := by show _ = _; rw [HR.out, if_neg (by decide)]
  have kSa := hSa s7
  have kSb := hSb t7
  have HSZ := Lib.hid sz
  have HTZ := Lib.hid tz
  clear HR hsm1 hsm2 hSa hSb s7 t7 sz tz se te
  generalize Idn.rSorted l = X at *
  generalize Idn.rSorted k = Y at *
  go_wp2_with fail
  refine (hC1 W hbW).mono ?_
  rintro e w1 ⟨rfl, hb1⟩
  replace a1 := cell_later hb1 a1
  replace b0 := cell_later hb1 b0
  replace b1 := cell_later hb1 b1
  have hbw1 := hbW.trans (hb1.mono hbW.size)
  clear hC1 hb1
  go_wp2_with fail
  refine (hC2 w1 hbw1).mono ?_
  rintro e w2 ⟨rfl, hb2⟩
  replace a1 := cell_later hb2 a1
  replace b1 := cell_later hb2 b1
  have hbw2 := hbw1.trans (hb2.mono hbw1.size)
  clear hC2 a0 b0 hb2 hbw1
  have hSt : ∀ W', Below w2.heap.size w2 W' → W'.cell? ⟨w.heap.size, 1, none⟩ = some (.slice A l.length c) ∧ W'.cell? ⟨w.heap.size + 1, 1, none⟩ = some (.slice A2 k.length c2) ∧ Below w2.heap.size w2 W' := fun W' hW => ⟨cell_later hW a1, cell_later hW b1, hW⟩
  have q1 := fun W (hW : Below w2.heap.size w2 W) => kSa W (hbw2.trans (hW.mono hbw2.size))
  have q2 := fun W (hW : Below w2.heap.size w2 W) => kSb W (hbw2.trans (hW.mono hbw2.size))
  clear kSa kSb a1 b1
  go_wp2_with fail
  go_region_held3 (fun W' => W'.cell? ⟨w.heap.size, 1, none⟩ = some (.slice A l.length c) ∧ W'.cell? ⟨w.heap.size + 1, 1, none⟩ = some (.slice A2 k.length c2) ∧ Below w2.heap.size w2 W')
    (first | (refine hSt _ ?_; repeat (first | with_reducible exact Below.refl _ _ | with_reducible apply Below.drew | with_reducible refine Below.on ?_ ha1 | with_reducible refine Below.on ?_ ha2)))
    (first
      | (have _hx := ha1; go_at_call 57; refine (q2 _ (by repeat (first | with_reducible exact Below.refl _ _ | with_reducible apply Below.drew | with_reducible refine Below.on ?_ ha1))).mono ?_; rintro e wB ⟨vB, psB, rfl, hrB, hpB, ha2⟩; obtain ⟨AB, cB, hvB⟩ := own_shape hrB.1; subst hvB)
      | (go_at_call 57; refine (q1 _ (by repeat (first | with_reducible exact Below.refl _ _ | with_reducible apply Below.drew))).mono ?_; rintro e wA ⟨vA, psA, rfl, hrA, hpA, ha1⟩; obtain ⟨AA, cA, hvA⟩ := own_shape hrA.1; subst hvA))
  all_goals
    have hb12 : Below wA.heap.size wA wB := by repeat (first | with_reducible exact Below.refl _ _ | with_reducible apply Below.drew | with_reducible refine Below.on ?_ ha2)
    have hfin : Below w2.heap.size w2 wB := by repeat (first | with_reducible exact Below.refl _ _ | with_reducible apply Below.drew | with_reducible refine Below.on ?_ ha1 | with_reducible refine Below.on ?_ ha2)
    have hbY := hbw2.trans (hfin.mono hbw2.size)
    have rA : AttRow wB w.heap.size (.slice AA psA.length cA) psA := (hrA.keep hb12).low hbw2.size
    have rB : AttRow wB w.heap.size (.slice AB psB.length cB) psB := hrB.low (by have h1 := hbw2.size; have h2 := ha1.size; (try simp at h1 h2 ⊢); omega)
    have HPA : Hid (psA.map (·.1) = X) := hpA
    have HPB : Hid (psB.map (·.1) = Y) := hpB
    have hlA : psA.length = X.length := by rw [← hpA, List.length_map]
    have hlB : psB.length = Y.length := by rw [← hpB, List.length_map]
    have hA32 : psA.length ≤ 32 := by omega
    have hB32 : psB.length ≤ 32 := by omega
    have HZA : Hid (∀ p ∈ psA, p.1.name.length ≤ 64 ∧ p.1.vals.length ≤ 1000) := fun p hp => by
      have := HSZ.out p.1 (by rw [← hpA]; exact List.mem_map.2 ⟨p, hp, rfl⟩)
      exact ⟨this.1, this.2.1⟩
    have HZB : Hid (∀ p ∈ psB, p.1.name.length ≤ 64 ∧ p.1.vals.length ≤ 1000) := fun p hp => by
      have := HTZ.out p.1 (by rw [← hpB]; exact List.mem_map.2 ⟨p, hp, rfl⟩)
      exact ⟨this.1, this.2.1⟩
    have HR3 : Hid (r = rDiffK (psA.map (·.1)) (psB.map (·.1))) := by show _ = _; rw [HR2.out, hpA, hpB]
    have N0 := ModOwn.nil wB w.heap.size
    have hwB : w.heap.size ≤ wB.heap.size := hbY.size
    clear HR2 HSZ HTZ hrA hrB hpA hpB hb12 hfin ha1 ha2 hSt q1 q2 hbw2 hlA hlB sl tl HPA HPB
    go_wp2_with fail
    go_loopw [7, 8, 9] (fun o i j wr => ∃ (x y : Nat) (ps : List (Md × Value)), x ≤ psA.length ∧ y ≤ psB.length ∧ i = .int .i64 x ∧ j = .int .i64 y ∧ ModOwn wr w.heap.size o ps ∧ (∀ g, o.ownBlock = some g → wB.heap.size ≤ g) ∧ Below wB.heap.size wB wr ∧ Hid (r = ps.map (·.1) ++ rDiffK ((psA.drop x).map (·.1)) ((psB.drop y).map (·.1))) ∧ ps.length ≤ 2 * (x + y)) (fun _ i j _ => (psA.length - (intOf i).toNat) + (psB.length - (intOf j).toNat))
    case atStart => exact ⟨0, 0, [], Nat.zero_le _, Nat.zero_le _, rfl, rfl, N0, fun g hg => by simp [Value.ownBlock] at hg, Below.refl _ _, HR3.out, Nat.le_refl _⟩
    case round =>
      obtain ⟨x, y, ps, hx, hy, rfl, rfl, hM, hblk, hb, hinv, hpl⟩ := hrel
      obtain ⟨Ao, co, hov⟩ := own_shape hM.1
      subst hov
      obtain ⟨wo, hwo⟩ : ∃ wo : World, wo = wr := ⟨_, rfl⟩
      subst hwo
      have hwo9 := hb.size
      clear N0 HR3
      by_cases hxl : x < psA.length
      · have hxI : (x : Int) < (psA.length : Int) := by omega
        have hxI2 : ¬ (psA.length : Int) ≤ (x : Int) := by omega
        obtain ⟨gx, hAA, hcx⟩ := own_open (rA.keep hb).1 (by omega)
        subst hAA
        obtain ⟨rx0, rx1⟩ := rowA_at psA x _ (List.getElem?_eq_getElem hxl)
        have d0 := hcx _ _ rx0
        have d1 := hcx _ _ rx1
        have hdx := drop_fst psA x hxl
        have hzx := HZA.out _ (List.getElem_mem hxl)
        have hox := (rA.keep hb).2 _ (List.getElem_mem hxl)
        clear hcx rx0 rx1
        generalize psA[x] = px at *
        obtain ⟨⟨xn, xv⟩, xu⟩ := px
        obtain ⟨Ax, cx, hxu⟩ := own_shape hox
        dsimp only at d0 d1 hdx hzx hox hxu
        subst hxu
        unfold sv at d0
        rw [hdx] at hinv
        by_cases hyl : y < psB.length
        · have hyI : (y : Int) < (psB.length : Int) := by omega
          have hyI2 : ¬ (psB.length : Int) ≤ (y : Int) := by omega
          obtain ⟨gy, hAB, hcy⟩ := own_open (rB.keep hb).1 (by omega)
          subst hAB
          obtain ⟨ry0, ry1⟩ := rowA_at psB y _ (List.getElem?_eq_getElem hyl)
          have e0 := hcy _ _ ry0
          have e1 := hcy _ _ ry1
          have hdy := drop_fst psB y hyl
          have hzy := HZB.out _ (List.getElem_mem hyl)
          have hoy := (rB.keep hb).2 _ (List.getElem_mem hyl)
          clear hcy ry0 ry1
          generalize psB[y] = py at *
          obtain ⟨⟨yn, yv⟩, yu⟩ := py
          obtain ⟨Ay, cy, hyu⟩ := own_shape hoy
          dsimp only at e0 e1 hdy hzy hoy hyu
          subst hyu
          unfold sv at e0
          rw [hdy] at hinv
          have hcmp : Op.bytesLess (B xn).toList (B yn).toList = decide (xn < yn) := by rw [bytesLess_eq, toList_L, toList_L, Idn.L_B, Idn.L_B]
          have hcmp2 : Op.bytesLess (B yn).toList (B xn).toList = decide (yn < xn) := by rw [bytesLess_eq, toList_L, toList_L, Idn.L_B, Idn.L_B]
          have j0 := cell_regrown d0
          have j1 := cell_regrown e0
          by_cases h1 : xn < yn
          · rw [decide_eq_true h1] at hcmp
            have HF : Hid (r = (ps.map (·.1) ++ [⟨2, xn, []⟩]) ++ rDiffK ((psA.drop (x + 1)).map (·.1)) ((psB.drop y).map (·.1))) := by
              show _ = _; rw [hinv.out, rd_lt _ _ h1, hdy, List.append_assoc]; rfl
            clear hinv h1 hdx hdy hcmp2 hox hoy d1 e1
            go_wp2
            refine wp_region_quiet_below (by kernel_rfl) (by kernel_rfl) ?_
            repeat (first | go_big_quiet_step ((fail)) | quiet_step ((fail)))
            refine wpQuiet_nil ?_
            intro _ hw'
            obtain ⟨⟨dq, osq⟩, hw''⟩ := hw'
            subst hw''
            have hb4 := below_regrown wo dq osq
            generalize grow (redrawn wo dq) osq = W4 at hb4 ⊢
            clear j0 j1
            replace d0 := cell_later hb4 d0
            have hM4 := hM.keep hb4
            have hb04 := hb.trans (hb4.mono hwo9)
            have hw4 := hb04.size
            clear hM hcmp e0
            go_wp2_with (at_builtin; refine wpList_push W4 rfl _ _ 38 rfl w.heap.size 59 (.agg #[.int .i64 0, .string ⟨#[]⟩, .slice none 0 0]) 3 48 Tryz.underlying38 info_mod rfl (by decide) _ ps.length _ hM4.1 rfl [.int .i64 2, .string (B xn), .slice none 0 0] rfl rfl (by intro u hu; simp at hu; rcases hu with rfl | rfl | rfl <;> rfl) (by omega) (by omega) ?_ rfl)
            intro v7 w7 hown7 hg7 hat7 _ _
            have hM7 := hM4.push (m := ⟨2, xn, []⟩) hown7 hg7 (CutS.nil _ _)
            have hlo7 : ∀ g, v7.ownBlock = some g → wB.heap.size ≤ g := fun g hg => hat7.elim (fun h1 => hblk g (by rw [← h1]; exact hg)) (fun h1 => by rw [h1] at hg; injection hg with hg; omega)
            have hb07 := hb04.grown hg7 hw4 hblk
            go_wp2
            go_roundw
            case rel => exact ⟨x + 1, y, ps ++ [(⟨2, xn, []⟩, .slice none 0 0)], by omega, hy, by go_num, rfl, hM7, hlo7, hb07, by show _ = _; rw [HF.out, List.map_append]; rfl, by rw [List.length_append]; simp; omega⟩
            case measure => simp [intOf]; omega
          · rw [decide_eq_false h1] at hcmp
            by_cases h2 : yn < xn
            · rw [decide_eq_true h2] at hcmp2
              have HF : Hid (r = (ps.map (·.1) ++ [⟨1, yn, yv⟩]) ++ rDiffK ((psA.drop x).map (·.1)) ((psB.drop (y + 1)).map (·.1))) := by
                show _ = _; rw [hinv.out, rd_gt _ _ h1 h2, hdx, List.append_assoc]; rfl
              clear hinv h1 h2 hdx hdy hox d1
              go_wp2
              refine wp_region_quiet_below (by kernel_rfl) (by kernel_rfl) ?_
              repeat (first | go_big_quiet_step ((fail)) | quiet_step ((fail)))
              refine wpQuiet_nil ?_
              intro _ hw'
              obtain ⟨⟨dq, osq⟩, hw''⟩ := hw'
              subst hw''
              have hb4 := below_regrown wo dq osq
              generalize grow (redrawn wo dq) osq = W4 at hb4 ⊢
              clear j0 j1
              replace d0 := cell_later hb4 d0
              replace e0 := cell_later hb4 e0
              replace e1 := cell_later hb4 e1
              have hM4 := hM.keep hb4
              have hoy4 := own_below hoy hb4
              have hb04 := hb.trans (hb4.mono hwo9)
              have hw4 := hb04.size
              have j0 := cell_regrown d0
              have j1 := cell_regrown e0
              clear hM hoy
              go_wp2
              refine wp_region_quiet_below (by kernel_rfl) (by kernel_rfl) ?_
              repeat (first | go_big_quiet_step ((fail)) | quiet_step ((fail)))
              refine wpQuiet_nil ?_
              intro _ hw'
              obtain ⟨⟨dq, osq⟩, hw''⟩ := hw'
              subst hw''
              have hb5 := below_regrown W4 dq osq
              generalize grow (redrawn W4 dq) osq = W5 at hb5 ⊢
              clear j0 j1
              replace e0 := cell_later hb5 e0
              replace e1 := cell_later hb5 e1
              have hM5 := hM4.keep hb5
              have hoy5 := own_below hoy4 hb5
              have hb05 := hb04.trans (hb5.mono hw4)
              have hw5 := hb05.size
              clear hM4 hoy4
              have hM5d : ModOwn W5.drew w.heap.size (.slice Ao ps.length co) ps := hM5.keep ((Below.refl _ _).drew)
              have hoy5d := own_below hoy5 (Below.drew (Below.refl W5.heap.size W5))
              have hb05d : Below wB.heap.size wB W5.drew := hb05.drew
              have e0d : W5.drew.cell? ⟨gy, y * 2, none⟩ = some (.string (B yn)) := e0
              have e1d : W5.drew.cell? ⟨gy, y * 2 + 1, none⟩ = some (.slice Ay yv.length cy) := e1
              have hwd : wB.heap.size ≤ W5.drew.heap.size := hw5
              clear hM5 hoy5 hb05
              go_wp2_with fail
              clear e0 e1
              go_region_law (refine step_push rfl _ _ 38 rfl w.heap.size 59 (.agg #[.int .i64 0, .string ⟨#[]⟩, .slice none 0 0]) 3 48 Tryz.underlying38 info_mod rfl (by decide) _ ps.length _ hM5d.1 rfl [.int .i64 1, .string (B yn), .slice Ay yv.length cy] rfl rfl (by intro u hu; simp at hu; rcases hu with rfl | rfl | rfl <;> rfl) (by omega) (Nat.le_trans hwB hwd) ?_ rfl; intro v7 w7 hown7 hg7 hat7)
              all_goals
                have hM7 := hM5d.push (m := ⟨1, yn, yv⟩) hown7 hg7 ((CutS.own hoy5d))
                have hlo7 : ∀ g, v7.ownBlock = some g → wB.heap.size ≤ g := fun g hg => hat7.elim (fun h1 => hblk g (by rw [← h1]; exact hg)) (fun h1 => by rw [h1] at hg; injection hg with hg; omega)
                have hb07 := hb05d.grown hg7 hwd hblk
                go_wp2_with fail
                go_roundw
                case rel => exact ⟨x, y + 1, ps ++ [(⟨1, yn, yv⟩, .slice Ay yv.length cy)], by omega, by omega, rfl, by go_num, hM7, hlo7, hb07, by show _ = _; rw [HF.out, List.map_append]; rfl, by rw [List.length_append]; simp; omega⟩
                case measure => simp [intOf]; omega
            · rw [decide_eq_false h2] at hcmp2
              have hnn : xn = yn := name_lt_of h1 h2
              have HF0 : Hid (r = ps.map (·.1) ++ (rDif ⟨xn, xv⟩ ⟨yn, yv⟩ ++ rDiffK ((psA.drop (x + 1)).map (·.1)) ((psB.drop (y + 1)).map (·.1)))) := by
                show _ = _; rw [hinv.out, rd_eq _ _ h1 h2]
              have HNN := Lib.hid hnn
              clear hinv h1 h2 hdx hdy hnn
              go_wp2
              refine wp_region_quiet_below (by kernel_rfl) (by kernel_rfl) ?_
              repeat (first | go_big_quiet_step ((fail)) | quiet_step ((fail)))
              refine wpQuiet_nil ?_
              intro _ hw'
              obtain ⟨⟨dq, osq⟩, hw''⟩ := hw'
              subst hw''
              have hb4 := below_regrown wo dq osq
              generalize grow (redrawn wo dq) osq = W4 at hb4 ⊢
              clear j0 j1
              replace d0 := cell_later hb4 d0
              replace d1 := cell_later hb4 d1
              replace e0 := cell_later hb4 e0
              replace e1 := cell_later hb4 e1
              have hM4 := hM.keep hb4
              have hox4 := own_below hox hb4
              have hoy4 := own_below hoy hb4
              have hb04 := hb.trans (hb4.mono hwo9)
              have hw4 := hb04.size
              have j0 := cell_regrown d0
              have j1 := cell_regrown e0
              clear hM hox hoy
              go_wp2
              refine wp_region_quiet_below (by kernel_rfl) (by kernel_rfl) ?_
              repeat (first | go_big_quiet_step ((fail)) | quiet_step ((fail)))
              refine wpQuiet_nil ?_
              intro _ hw'
              obtain ⟨⟨dq, osq⟩, hw''⟩ := hw'
              subst hw''
              have hb5 := below_regrown W4 dq osq
              generalize grow (redrawn W4 dq) osq = W5 at hb5 ⊢
              clear j0 j1
              replace d1 := cell_later hb5 d1
              replace e0 := cell_later hb5 e0
              replace e1 := cell_later hb5 e1
              have hM5 := hM4.keep hb5
              have hox5 := own_below hox4 hb5
              have hoy5 := own_below hoy4 hb5
              have hb05 := hb04.trans (hb5.mono hw4)
              have hw5 := hb05.size
              have kM1 := fun W' (hW : Below W5.heap.size W5 W') => r8_minus_any (.slice Ax xv.length cx) (.slice Ay yv.length cy) xv yv W' (StrsV.of_own (own_below hox5 hW)) (StrsV.of_own (own_below hoy5 hW)) (by omega) (by omega)
              have kM2 := fun W' (hW : Below W5.heap.size W5 W') => r8_minus_any (.slice Ay yv.length cy) (.slice Ax xv.length cx) yv xv W' (StrsV.of_own (own_below hoy5 hW)) (StrsV.of_own (own_below hox5 hW)) (by omega) (by omega)
              have hSt : ∀ W', Below W5.heap.size W5 W' → W'.cell? ⟨gx, x * 2 + 1, none⟩ = some (.slice Ax xv.length cx) ∧ W'.cell? ⟨gy, y * 2 + 1, none⟩ = some (.slice Ay yv.length cy) ∧ Below W5.heap.size W5 W' := fun W' hW => ⟨cell_later hW d1, cell_later hW e1, hW⟩
              have hrd : rDif ⟨xn, xv⟩ ⟨yn, yv⟩ = if (minus xv yv).length = xv.length then [⟨3, yn, yv⟩] else (if 0 < (minus xv yv).length then [⟨2, yn, minus xv yv⟩] else []) ++ (if 0 < (minus yv xv).length then [⟨1, yn, minus yv xv⟩] else []) := by
                unfold rDif; rw [HNN.out]
              have HRD := Lib.hid hrd
              have hml1 := minus_len xv yv
              have hml2 := minus_len yv xv
              clear hM4 hox4 hoy4 hb04 hrd d0 hcmp hcmp2 HNN
              generalize minus xv yv = gone at *
              generalize minus yv xv = mor at *
              generalize rDif ⟨xn, xv⟩ ⟨yn, yv⟩ = rd at *
              go_wp2_with fail
              go_region_held3 (fun W' => W'.cell? ⟨gx, x * 2 + 1, none⟩ = some (.slice Ax xv.length cx) ∧ W'.cell? ⟨gy, y * 2 + 1, none⟩ = some (.slice Ay yv.length cy) ∧ Below W5.heap.size W5 W')
                (first | (refine hSt _ ?_; repeat (first | with_reducible exact Below.refl _ _ | with_reducible apply Below.drew | with_reducible refine Below.on ?_ hbG | with_reducible refine Below.on ?_ hbH)))
                (first
                  | (have _hx := hbG; go_at_call 72; refine (kM2 _ (by repeat (first | with_reducible exact Below.refl _ _ | with_reducible apply Below.drew | with_reducible refine Below.on ?_ hbG))).mono ?_; rintro e wH ⟨vH, rfl, hoH, hbH⟩; obtain ⟨AH, cH, hvH⟩ := own_shape hoH; subst hvH)
                  | (go_at_call 72; refine (kM1 _ (by repeat (first | with_reducible exact Below.refl _ _ | with_reducible apply Below.drew))).mono ?_; rintro e wG ⟨vG, rfl, hoG, hbG⟩; obtain ⟨AG, cG, hvG⟩ := own_shape hoG; subst hvG))
              all_goals
                have hGH : Below wG.heap.size wG wH := by repeat (first | with_reducible exact Below.refl _ _ | with_reducible apply Below.drew | with_reducible refine Below.on ?_ hbH)
                have hbGH : Below W5.heap.size W5 wH := by repeat (first | with_reducible exact Below.refl _ _ | with_reducible apply Below.drew | with_reducible refine Below.on ?_ hbG | with_reducible refine Below.on ?_ hbH)
                have hM6 := hM5.keep hbGH
                have hoy6 := own_below hoy5 hbGH
                have d1H := cell_later hbGH d1
                have e0H := cell_later hbGH e0
                have e1H := cell_later hbGH e1
                have hb06 := hb05.trans (hbGH.mono hw5)
                have hw6 := hb06.size
                have gG : CutS wH w.heap.size _ gone := CutS.own (own_base (own_below hoG hGH) (by have h3 := hw5; (try simp at h3 ⊢); omega))
                have gH : CutS wH w.heap.size _ mor := CutS.own (own_base hoH (by have h3 := hw5; have h4 := hbG.size; (try simp at h3 h4 ⊢); omega))
                clear hM5 hox5 hoy5 hb05 d1 e0 e1 hSt kM1 kM2 hoG hoH hbG hbH hGH hbGH
                by_cases hge : gone.length = xv.length
                · have hgI : ((gone.length : Int) == (xv.length : Int)) = true := by rw [beq_iff_eq]; omega
                  have HF : Hid (r = (ps.map (·.1) ++ [⟨3, yn, yv⟩]) ++ rDiffK ((psA.drop (x + 1)).map (·.1)) ((psB.drop (y + 1)).map (·.1))) := by
                    show _ = _; rw [HF0.out, HRD.out, if_pos hge, List.append_assoc]
                  have hM6d : ModOwn wH.drew w.heap.size (.slice Ao ps.length co) ps := hM6.keep ((Below.refl _ _).drew)
                  have hoy6d := own_below hoy6 (Below.drew (Below.refl wH.heap.size wH))
                  have hb06d : Below wB.heap.size wB wH.drew := hb06.drew
                  have e0d : wH.drew.cell? ⟨gy, y * 2, none⟩ = some (.string (B yn)) := e0H
                  have e1d : wH.drew.cell? ⟨gy, y * 2 + 1, none⟩ = some (.slice Ay yv.length cy) := e1H
                  have hwd : wB.heap.size ≤ wH.drew.heap.size := hw6
                  clear HF0 HRD hge hM6 hoy6 hb06 gG gH
                  go_wp2_with fail
                  clear e0H e1H d1H
                  go_region_law (refine step_push rfl _ _ 38 rfl w.heap.size 59 (.agg #[.int .i64 0, .string ⟨#[]⟩, .slice none 0 0]) 3 48 Tryz.underlying38 info_mod rfl (by decide) _ ps.length _ hM6d.1 rfl [.int .i64 3, .string (B yn), .slice Ay yv.length cy] rfl rfl (by intro u hu; simp at hu; rcases hu with rfl | rfl | rfl <;> rfl) (by omega) (Nat.le_trans hwB hwd) ?_ rfl; intro v7 w7 hown7 hg7 hat7)
                  all_goals
                    have hM7 := hM6d.push (m := ⟨3, yn, yv⟩) hown7 hg7 (CutS.own hoy6d)
                    have hlo7 : ∀ g, v7.ownBlock = some g → wB.heap.size ≤ g := fun g hg => hat7.elim (fun h1 => hblk g (by rw [← h1]; exact hg)) (fun h1 => by rw [h1] at hg; injection hg with hg; omega)
                    have hb07 := hb06d.grown hg7 hwd hblk
                    go_wp2_with fail
                    go_roundw
                    case rel => exact ⟨x + 1, y + 1, ps ++ [(⟨3, yn, yv⟩, .slice Ay yv.length cy)], by omega, by omega, by go_num, by go_num, hM7, hlo7, hb07, by show _ = _; rw [HF.out, List.map_append]; rfl, by rw [List.length_append]; simp; omega⟩
                    case measure => simp [intOf]; omega
                · have hgI : ((gone.length : Int) == (xv.length : Int)) = false := by rw [beq_eq_false_iff_ne]; omega
                  have HF : Hid (r = ps.map (·.1) ++ (((if 0 < gone.length then [⟨2, yn, gone⟩] else []) ++ (if 0 < mor.length then [⟨1, yn, mor⟩] else [])) ++ rDiffK ((psA.drop (x + 1)).map (·.1)) ((psB.drop (y + 1)).map (·.1)))) := by
                    show _ = _; rw [HF0.out, HRD.out, if_neg hge]
                  clear HF0 HRD hge hoy6 e1H
                  have hps9 : ps.length ≤ 130 := by omega
                  by_cases hg0 : 0 < gone.length
                  · have hg0I : (0 : Int) < (gone.length : Int) := by omega
                    go_wp2_with (at_builtin; refine wpList_push wH rfl _ _ 38 rfl w.heap.size 59 (.agg #[.int .i64 0, .string ⟨#[]⟩, .slice none 0 0]) 3 48 Tryz.underlying38 info_mod rfl (by decide) _ ps.length _ hM6.1 rfl [.int .i64 2, .string (B yn), .slice AG gone.length cG] rfl rfl (by intro u hu; simp at hu; rcases hu with rfl | rfl | rfl <;> rfl) (by omega) (by omega) ?_ rfl)
                    intro v7 w7 hown7 hg7 hat7 hb7 _
                    have hM7 := hM6.push (m := ⟨2, yn, gone⟩) hown7 hg7 gG
                    have gH7 := gH.grown hM6.1 hg7
                    have hlo7 : ∀ g, v7.ownBlock = some g → wB.heap.size ≤ g := fun g hg => hat7.elim (fun h1 => hblk g (by rw [← h1]; exact hg)) (fun h1 => by rw [h1] at hg; injection hg with hg; omega)
                    have hb07 := hb06.grown hg7 hw6 hblk
                    have hw7 := hb07.size
                    have e0K : w7.cell? ⟨gy, y * 2, none⟩ = some (.string (B yn)) := grown_cell hg7 e0H (fun e => by
                      have h1 := hblk gy e.symm
                      have h2 := (rB.1.lt gy rfl).2
                      omega)
                    obtain ⟨A7, c7, hv7⟩ := own_shape hown7
                    subst hv7
                    clear hM6 gG gH hown7 e0H d1H
                    by_cases hm0 : 0 < mor.length
                    · have hm0I : (0 : Int) < (mor.length : Int) := by omega
                      have HF2 : Hid (r = (ps.map (·.1) ++ [⟨2, yn, gone⟩, ⟨1, yn, mor⟩]) ++ rDiffK ((psA.drop (x + 1)).map (·.1)) ((psB.drop (y + 1)).map (·.1))) := by
                        show _ = _; rw [HF.out, if_pos hg0, if_pos hm0]; simp
                      clear HF hg0 hm0
                      go_wp2_with (at_builtin; refine wpList_push w7 rfl _ _ 38 rfl w.heap.size 59 (.agg #[.int .i64 0, .string ⟨#[]⟩, .slice none 0 0]) 3 48 Tryz.underlying38 info_mod rfl (by decide) _ (ps.length + 1) _ (by have := hM7.1; rw [List.length_append] at this; exact this) rfl [.int .i64 1, .string (B yn), .slice AH mor.length cH] rfl rfl (by intro u hu; simp at hu; rcases hu with rfl | rfl | rfl <;> rfl) (by omega) (by omega) ?_ rfl)
                      intro v8 w8 hown8 hg8 hat8 hb8 _
                      have hM8 := hM7.push (m := ⟨1, yn, mor⟩) (by rw [List.length_append]; exact hown8) hg8 gH7
                      have hlo8 : ∀ g, v8.ownBlock = some g → wB.heap.size ≤ g := fun g hg => hat8.elim (fun h1 => hlo7 g (by rw [← h1]; exact hg)) (fun h1 => by rw [h1] at hg; injection hg with hg; omega)
                      have hb08 := hb07.grown hg8 hw7 hlo7
                      go_wp2
                      go_roundw
                      case rel => exact ⟨x + 1, y + 1, _, by omega, by omega, by go_num, by go_num, hM8, hlo8, hb08, by show _ = _; rw [HF2.out]; simp, by rw [List.length_append, List.length_append]; simp; omega⟩
                      case measure => simp [intOf]; omega
                    · have hm0I : ¬ (0 : Int) < (mor.length : Int) := by omega
                      have HF2 : Hid (r = (ps.map (·.1) ++ [⟨2, yn, gone⟩]) ++ rDiffK ((psA.drop (x + 1)).map (·.1)) ((psB.drop (y + 1)).map (·.1))) := by
                        show _ = _; rw [HF.out, if_pos hg0, if_neg hm0]; simp
                      clear HF hg0 hm0
                      go_wp2
                      go_roundw
                      case rel => exact ⟨x + 1, y + 1, _, by omega, by omega, by go_num, by go_num, hM7, hlo7, hb07, by show _ = _; rw [HF2.out]; simp, by rw [List.length_append]; simp; omega⟩
                      case measure => simp [intOf]; omega
                  · have hg0I : ¬ (0 : Int) < (gone.length : Int) := by omega
                    by_cases hm0 : 0 < mor.length
                    · have hm0I : (0 : Int) < (mor.length : Int) := by omega
                      have HF2 : Hid (r = (ps.map (·.1) ++ [⟨1, yn, mor⟩]) ++ rDiffK ((psA.drop (x + 1)).map (·.1)) ((psB.drop (y + 1)).map (·.1))) := by
                        show _ = _; rw [HF.out, if_neg hg0, if_pos hm0]; simp
                      clear HF hg0 hm0
                      go_wp2_with (at_builtin; refine wpList_push wH rfl _ _ 38 rfl w.heap.size 59 (.agg #[.int .i64 0, .string ⟨#[]⟩, .slice none 0 0]) 3 48 Tryz.underlying38 info_mod rfl (by decide) _ ps.length _ hM6.1 rfl [.int .i64 1, .string (B yn), .slice AH mor.length cH] rfl rfl (by intro u hu; simp at hu; rcases hu with rfl | rfl | rfl <;> rfl) (by omega) (by omega) ?_ rfl)
                      intro v7 w7 hown7 hg7 hat7 hb7 _
                      have hM7 := hM6.push (m := ⟨1, yn, mor⟩) hown7 hg7 gH
                      have hlo7 : ∀ g, v7.ownBlock = some g → wB.heap.size ≤ g := fun g hg => hat7.elim (fun h1 => hblk g (by rw [← h1]; exact hg)) (fun h1 => by rw [h1] at hg; injection hg with hg; omega)
                      have hb07 := hb06.grown hg7 hw6 hblk
                      go_wp2
                      go_roundw
                      case rel => exact ⟨x + 1, y + 1, _, by omega, by omega, by go_num, by go_num, hM7, hlo7, hb07, by show _ = _; rw [HF2.out]; simp, by rw [List.length_append]; simp; omega⟩
                      case measure => simp [intOf]; omega
                    · have hm0I : ¬ (0 : Int) < (mor.length : Int) := by omega
                      have HF2 : Hid (r = ps.map (·.1) ++ rDiffK ((psA.drop (x + 1)).map (·.1)) ((psB.drop (y + 1)).map (·.1))) := by
                        show _ = _; rw [HF.out, if_neg hg0, if_neg hm0]; simp
                      clear HF hg0 hm0
                      go_wp2
                      go_roundw
                      case rel => exact ⟨x + 1, y + 1, ps, by omega, by omega, by go_num, by go_num, hM6, hblk, hb06, HF2.out, by omega⟩
                      case measure => simp [intOf]; omega
        · have hyI : ¬ (y : Int) < (psB.length : Int) := by omega
          have hyI2 : (psB.length : Int) ≤ (y : Int) := by omega
          have hdy := drop_fst0 psB y hyl
          rw [hdy] at hinv
          have j0 := cell_regrown d0
          have HF : Hid (r = (ps.map (·.1) ++ [⟨2, xn, []⟩]) ++ rDiffK ((psA.drop (x + 1)).map (·.1)) ((psB.drop y).map (·.1))) := by
            show _ = _; rw [hinv.out, rd_left, hdy, List.append_assoc]; rfl
          clear hinv hdx hdy hox d1
          go_wp2
          refine wp_region_quiet_below (by kernel_rfl) (by kernel_rfl) ?_
          repeat (first | go_big_quiet_step ((fail)) | quiet_step ((fail)))
          refine wpQuiet_nil ?_
          intro _ hw'
          obtain ⟨⟨dq, osq⟩, hw''⟩ := hw'
          subst hw''
          have hb4 := below_regrown wo dq osq
          generalize grow (redrawn wo dq) osq = W4 at hb4 ⊢
          clear j0
          replace d0 := cell_later hb4 d0
          have hM4 := hM.keep hb4
          have hb04 := hb.trans (hb4.mono hwo9)
          have hw4 := hb04.size
          clear hM
          go_wp2_with (at_builtin; refine wpList_push W4 rfl _ _ 38 rfl w.heap.size 59 (.agg #[.int .i64 0, .string ⟨#[]⟩, .slice none 0 0]) 3 48 Tryz.underlying38 info_mod rfl (by decide) _ ps.length _ hM4.1 rfl [.int .i64 2, .string (B xn), .slice none 0 0] rfl rfl (by intro u hu; simp at hu; rcases hu with rfl | rfl | rfl <;> rfl) (by omega) (by omega) ?_ rfl)
          intro v7 w7 hown7 hg7 hat7 _ _
          have hM7 := hM4.push (m := ⟨2, xn, []⟩) hown7 hg7 (CutS.nil _ _)
          have hlo7 : ∀ g, v7.ownBlock = some g → wB.heap.size ≤ g := fun g hg => hat7.elim (fun h1 => hblk g (by rw [← h1]; exact hg)) (fun h1 => by rw [h1] at hg; injection hg with hg; omega)
          have hb07 := hb04.grown hg7 hw4 hblk
          go_wp2
          go_roundw
          case rel => exact ⟨x + 1, y, ps ++ [(⟨2, xn, []⟩, .slice none 0 0)], by omega, hy, by go_num, rfl, hM7, hlo7, hb07, by show _ = _; rw [HF.out, List.map_append]; rfl, by rw [List.length_append]; simp; omega⟩
          case measure => simp [intOf]; omega
      · have hxI : ¬ (x : Int) < (psA.length : Int) := by omega
        have hxI2 : (psA.length : Int) ≤ (x : Int) := by omega
        have hdx := drop_fst0 psA x hxl
        rw [hdx] at hinv
        by_cases hyl : y < psB.length
        · have hyI : (y : Int) < (psB.length : Int) := by omega
          have hyI2 : ¬ (psB.length : Int) ≤ (y : Int) := by omega
          obtain ⟨gy, hAB, hcy⟩ := own_open (rB.keep hb).1 (by omega)
          subst hAB
          obtain ⟨ry0, ry1⟩ := rowA_at psB y _ (List.getElem?_eq_getElem hyl)
          have e0 := hcy _ _ ry0
          have e1 := hcy _ _ ry1
          have hdy := drop_fst psB y hyl
          have hoy := (rB.keep hb).2 _ (List.getElem_mem hyl)
          clear hcy ry0 ry1
          generalize psB[y] = py at *
          obtain ⟨⟨yn, yv⟩, yu⟩ := py
          obtain ⟨Ay, cy, hyu⟩ := own_shape hoy
          dsimp only at e0 e1 hdy hoy hyu
          subst hyu
          unfold sv at e0
          rw [hdy] at hinv
          have j1 := cell_regrown e0
          have HF : Hid (r = (ps.map (·.1) ++ [⟨1, yn, yv⟩]) ++ rDiffK ((psA.drop x).map (·.1)) ((psB.drop (y + 1)).map (·.1))) := by
            show _ = _; rw [hinv.out, rd_right, hdx, List.append_assoc]; rfl
          clear hinv hdx hdy
          go_wp2
          refine wp_region_quiet_below (by kernel_rfl) (by kernel_rfl) ?_
          repeat (first | go_big_quiet_step ((fail)) | quiet_step ((fail)))
          refine wpQuiet_nil ?_
          intro _ hw'
          obtain ⟨⟨dq, osq⟩, hw''⟩ := hw'
          subst hw''
          have hb4 := below_regrown wo dq osq
          generalize grow (redrawn wo dq) osq = W4 at hb4 ⊢
          clear j1
          replace e0 := cell_later hb4 e0
          replace e1 := cell_later hb4 e1
          have hM4 := hM.keep hb4
          have hoy4 := own_below hoy hb4
          have hb04 := hb.trans (hb4.mono hwo9)
          have hw4 := hb04.size
          have j1 := cell_regrown e0
          clear hM hoy
          go_wp2
          refine wp_region_quiet_below (by kernel_rfl) (by kernel_rfl) ?_
          repeat (first | go_big_quiet_step ((fail)) | quiet_step ((fail)))
          refine wpQuiet_nil ?_
          intro _ hw'
          obtain ⟨⟨dq, osq⟩, hw''⟩ := hw'
          subst hw''
          have hb5 := below_regrown W4 dq osq
          generalize grow (redrawn W4 dq) osq = W5 at hb5 ⊢
          clear j1
          replace e0 := cell_later hb5 e0
          replace e1 := cell_later hb5 e1
          have hM5 := hM4.keep hb5
          have hoy5 := own_below hoy4 hb5
          have hb05 := hb04.trans (hb5.mono hw4)
          have hw5 := hb05.size
          clear hM4 hoy4
          have hM5d : ModOwn W5.drew w.heap.size (.slice Ao ps.length co) ps := hM5.keep ((Below.refl _ _).drew)
          have hoy5d := own_below hoy5 (Below.drew (Below.refl W5.heap.size W5))
          have hb05d : Below wB.heap.size wB W5.drew := hb05.drew
          have e0d : W5.drew.cell? ⟨gy, y * 2, none⟩ = some (.string (B yn)) := e0
          have e1d : W5.drew.cell? ⟨gy, y * 2 + 1, none⟩ = some (.slice Ay yv.length cy) := e1
          have hwd : wB.heap.size ≤ W5.drew.heap.size := hw5
          clear hM5 hoy5 hb05
          go_wp2_with fail
          clear e0 e1
          go_region_law (refine step_push rfl _ _ 38 rfl w.heap.size 59 (.agg #[.int .i64 0, .string ⟨#[]⟩, .slice none 0 0]) 3 48 Tryz.underlying38 info_mod rfl (by decide) _ ps.length _ hM5d.1 rfl [.int .i64 1, .string (B yn), .slice Ay yv.length cy] rfl rfl (by intro u hu; simp at hu; rcases hu with rfl | rfl | rfl <;> rfl) (by omega) (Nat.le_trans hwB hwd) ?_ rfl; intro v7 w7 hown7 hg7 hat7)
          all_goals
            have hM7 := hM5d.push (m := ⟨1, yn, yv⟩) hown7 hg7 ((CutS.own hoy5d))
            have hlo7 : ∀ g, v7.ownBlock = some g → wB.heap.size ≤ g := fun g hg => hat7.elim (fun h1 => hblk g (by rw [← h1]; exact hg)) (fun h1 => by rw [h1] at hg; injection hg with hg; omega)
            have hb07 := hb05d.grown hg7 hwd hblk
            go_wp2_with fail
            go_roundw
            case rel => exact ⟨x, y + 1, ps ++ [(⟨1, yn, yv⟩, .slice Ay yv.length cy)], by omega, by omega, rfl, by go_num, hM7, hlo7, hb07, by show _ = _; rw [HF.out, List.map_append]; rfl, by rw [List.length_append]; simp; omega⟩
            case measure => simp [intOf]; omega
        · have hyI : ¬ (y : Int) < (psB.length : Int) := by omega
          have hdy := drop_fst0 psB y hyl
          have HF : Hid (r = ps.map (·.1)) := by show _ = _; rw [hinv.out, hdy, rd_none, List.append_nil]
          clear hinv hdx hdy
          go_wp2_with fail
          go_ret
          exact ⟨_, rfl, hM.mods HF.out.symm, hbY.trans (hb.mono hwB)⟩
end Go.Proofs.YtoopoglkeeoamaaGreatDoor
/- identityref03.Same, identityref06: Same, Equal; identityref08: SameAttrs, Same, Equal. -/
namespace Go.Proofs.YtoopoglkeeoamaaGreatDoor
open Go.RowKit Go.Sort
open Idn (L B Bs drop_L take_L size_L)
set_option maxHeartbeats 1000000 in
set_option maxRecDepth 100000 in
theorem r3_Same_any (v u : Value) (a b : List Bs) (r : Bool) (hr : r = true ↔ a = b) (w : World) (hv : StrsV w w.heap.size v a) (hu : StrsV w w.heap.size u b) (ha : a.length ≤ 1000000000) (hb : b.length ≤ 1000000000) :
    Calls Tryz.prog 128 #[v, u] w fun e w' => e = .returned (.bool r) ∧ Below w.heap.size w w' := by
  obtain ⟨A, c, rfl, _⟩ := SlV.shape hv
  obtain ⟨A2, c2, rfl, _⟩ := SlV.shape hu
  go_enter Tryz.func128, Tryz.ntmps128
  by_cases h0 : a.length = b.length
  · have h0I : ((a.length : Int) != (b.length : Int)) = false := by rw [h0]; simp
    have H0 := Lib.hid h0
    have HRR := Lib.hid hr
    clear h0 hr
    go_wp2_with fail
    go_loopw [5] (fun i wr => ∃ (k : Nat), k ≤ a.length ∧ i = .int .i64 k ∧ Below w.heap.size w wr ∧ Hid (a.take k = b.take k)) (fun i _ => a.length - (intOf i).toNat)
    case atStart => exact ⟨0, Nat.zero_le _, rfl, Below.refl _ _, rfl⟩
    case round =>
      obtain ⟨k, hk, rfl, hbw, hinv⟩ := hrel
      by_cases hlt : k < a.length
      · have hlt' : k < b.length := by have := H0.out; omega
        obtain ⟨b1, o1, hA, hb1, d0⟩ := StrsV.cell (SlV.keep hv hbw) hlt
        obtain ⟨b2, o2, hA2, hb2, e0⟩ := StrsV.cell (SlV.keep hu hbw) hlt'
        subst hA hA2
        have hltI : (k : Int) < (a.length : Int) := by omega
        have hltJ : (k : Int) < (b.length : Int) := by omega
        have ht := B_beq a[k] b[k]
        by_cases he : a[k] = b[k]
        · have HF := Lib.hid (take_ext hinv.out hlt hlt' he)
          rw [decide_eq_true he] at ht
          clear hinv he
          generalize B a[k] = x at *
          generalize B b[k] = y at *
          go_wp2
          go_quiet (fail)
          go_wp2
          go_roundw
          case rel => exact ⟨k + 1, by omega, by go_num, below_drewN hbw _, HF⟩
          case measure => simp [intOf]; omega
        · have HF := Lib.hid (no_true HRR.out (get_ne hlt hlt' he))
          rw [decide_eq_false he] at ht
          clear hinv he
          generalize B a[k] = x at *
          generalize B b[k] = y at *
          go_wp2
          go_quiet (fail)
          go_wp2
          go_ret
          exact ⟨ret_bool HF.out.symm, below_drewN hbw _⟩
      · have hltI : ¬ (k : Int) < (a.length : Int) := by omega
        have hltJ : ¬ (k : Int) < (b.length : Int) := by have := H0.out; omega
        have HF : Hid (r = true) := HRR.out.2 (by
          have h1 := hinv.out
          have h2 := H0.out
          rwa [List.take_of_length_le (by omega), List.take_of_length_le (by omega)] at h1)
        clear hinv
        go_wp2
        go_ret
        exact ⟨ret_bool HF.out.symm, hbw⟩
  · have h0I : ((a.length : Int) != (b.length : Int)) = true := by rw [bne_iff_ne]; omega
    have HF := Lib.hid (no_true hr fun h => h0 (by rw [h]))
    go_wp2_with fail
    go_ret
    exact ⟨ret_bool HF.out.symm, Below.refl _ _⟩
set_option maxHeartbeats 2000000 in
set_option maxRecDepth 100000 in
theorem r6_Same_any (v u : Value) (a b : List Idn.Att) (r : Bool) (hr : r = true ↔ a = b) (w : World) (hv : AttsV w w.heap.size v a) (hu : AttsV w w.heap.size u b) (ha : a.length ≤ 1000000000) (hb : b.length ≤ 1000000000) (hav : ∀ m ∈ a, m.vals.length ≤ 1000000000) (hbv : ∀ m ∈ b, m.vals.length ≤ 1000000000) :
    Calls Tryz.prog 71 #[v, u] w fun e w' => e = .returned (.bool r) ∧ Below w.heap.size w w' := by
  obtain ⟨A, c, rfl, _⟩ := SlV.shape hv
  obtain ⟨A2, c2, rfl, _⟩ := SlV.shape hu
  go_enter Tryz.func71, Tryz.ntmps71
  by_cases h0 : a.length = b.length
  · have h0I : ((a.length : Int) != (b.length : Int)) = false := by rw [h0]; simp
    have H0 := Lib.hid h0
    have HRR := Lib.hid hr
    clear h0 hr
    go_wp2_with fail
    go_loopw [5] (fun i wr => ∃ (k : Nat), k ≤ a.length ∧ i = .int .i64 k ∧ Below w.heap.size w wr ∧ Hid (a.take k = b.take k)) (fun i _ => a.length - (intOf i).toNat)
    case atStart => exact ⟨0, Nat.zero_le _, rfl, Below.refl _ _, rfl⟩
    case round =>
      obtain ⟨k, hk, rfl, hbw, hinv⟩ := hrel
      obtain ⟨wo, hwo⟩ : ∃ wo : World, wo = wr := ⟨_, rfl⟩
      subst hwo
      by_cases hlt : k < a.length
      · have hlt' : k < b.length := by have := H0.out; omega
        obtain ⟨b1, o1, v1, hA, hb1, d1, d2, ds⟩ := AttsV.cell (hv.keep hbw) hlt
        obtain ⟨b2, o2, v2, hA2, hb2, e1, e2, es⟩ := AttsV.cell (hu.keep hbw) hlt'
        subst hA hA2
        obtain ⟨Av, cv, rfl, _⟩ := ds.shape
        obtain ⟨Aw, cw, rfl, _⟩ := es.shape
        have hltI : (k : Int) < (a.length : Int) := by omega
        have hltJ : (k : Int) < (b.length : Int) := by omega
        have ht := B_beq a[k].name b[k].name
        have q0 := fun (rr : Bool) (hrr : rr = true ↔ a[k].vals = b[k].vals) (W : World) (hW : Below wo.heap.size wo W) => r3_Same_any _ _ a[k].vals b[k].vals rr hrr W (SlV.mono (SlV.keep ds (hW.mono hbw.size)) (hbw.trans (hW.mono hbw.size)).size) (SlV.mono (SlV.keep es (hW.mono hbw.size)) (hbw.trans (hW.mono hbw.size)).size) (hav _ (List.getElem_mem _)) (hbv _ (List.getElem_mem _))
        have k1 := cell_regrown d1
        have k2 := cell_regrown d2
        have l1 := cell_regrown e1
        have l2 := cell_regrown e2
        have hne := get_ne hlt hlt'
        have hte := take_ext hinv.out hlt hlt'
        clear hinv ds es d1 d2 e1 e2
        by_cases hn : a[k].name = b[k].name
        case neg =>
          rw [decide_eq_false hn] at ht
          have HF := Lib.hid (no_true HRR.out (hne fun e => hn (by rw [e])))
          clear hn q0 hne hte
          go_wp2
          refine wp_region_quiet_below (by kernel_rfl) (by kernel_rfl) ?_
          repeat (first | go_big_quiet_step ((fail)) | quiet_step ((fail)))
          refine wpQuiet_nil ?_
          intro _ hw'
          obtain ⟨⟨dq, osq⟩, hw''⟩ := hw'
          subst hw''
          have hb4 := below_regrown wo dq osq
          generalize grow (redrawn wo dq) osq = W4 at hb4 ⊢
          go_wp2_with fail
          go_ret
          exact ⟨ret_bool HF.out.symm, hbw.trans (hb4.mono hbw.size)⟩
        rw [decide_eq_true hn] at ht
        by_cases hs : a[k].vals = b[k].vals
        case neg =>
          have q1 := cq (W := wo) (q0 false ⟨fun h => (by cases h), fun h => absurd h hs⟩)
          have HF := Lib.hid (no_true HRR.out (hne fun e => hs (by rw [e])))
          clear hn q0 hne hte hs
          go_wp2
          refine wp_region_quiet_below (by kernel_rfl) (by kernel_rfl) ?_
          repeat (first | go_big_quiet_step ((go_at_call 128; exact q1 _ _)) | quiet_step ((go_at_call 128; exact q1 _ _)))
          refine wpQuiet_nil ?_
          intro _ hw'
          obtain ⟨⟨dq, osq⟩, hw''⟩ := hw'
          subst hw''
          have hb4 := below_regrown wo dq osq
          generalize grow (redrawn wo dq) osq = W4 at hb4 ⊢
          clear q1
          go_wp2_with fail
          go_ret
          exact ⟨ret_bool HF.out.symm, hbw.trans (hb4.mono hbw.size)⟩
        have q1 := cq (W := wo) (q0 true ⟨fun _ => hs, fun _ => rfl⟩)
        have HF := Lib.hid (hte (att_ext hn hs))
        clear hn q0 hne hte hs
        go_wp2
        refine wp_region_quiet_below (by kernel_rfl) (by kernel_rfl) ?_
        repeat (first | go_big_quiet_step ((go_at_call 128; exact q1 _ _)) | quiet_step ((go_at_call 128; exact q1 _ _)))
        refine wpQuiet_nil ?_
        intro _ hw'
        obtain ⟨⟨dq, osq⟩, hw''⟩ := hw'
        subst hw''
        have hb4 := below_regrown wo dq osq
        generalize grow (redrawn wo dq) osq = W4 at hb4 ⊢
        clear q1
        go_wp2_with fail
        go_roundw
        case rel => exact ⟨k + 1, by omega, by go_num, hbw.trans (hb4.mono hbw.size), HF⟩
        case measure => simp [intOf]; omega
      · have hltI : ¬ (k : Int) < (a.length : Int) := by omega
        have hltJ : ¬ (k : Int) < (b.length : Int) := by have := H0.out; omega
        have HF : Hid (r = true) := HRR.out.2 (by
          have h1 := hinv.out
          have h2 := H0.out
          rwa [List.take_of_length_le (by omega), List.take_of_length_le (by omega)] at h1)
        clear hinv
        go_wp2
        go_ret
        exact ⟨ret_bool HF.out.symm, hbw⟩
  · have h0I : ((a.length : Int) != (b.length : Int)) = true := by rw [bne_iff_ne]; omega
    have HF := Lib.hid (no_true hr fun h => h0 (by rw [h]))
    go_wp2_with fail
    go_ret
    exact ⟨ret_bool HF.out.symm, Below.refl _ _⟩
set_option maxRecDepth 100000 in
theorem r6_Equal_any (a b : Value) (l k : List Idn.Att) (r : Bool) (hr : r = true ↔ Idn.rSorted l = Idn.rSorted k) (w : World) (ha : AttsV w w.heap.size a l) (hb : AttsV w w.heap.size b k) (hl : Idn.ASm7 l) (hk : Idn.ASm7 k) (hls : Idn.ASm7 (Idn.rSorted l)) (hks : Idn.ASm7 (Idn.rSorted k)) :
    Calls Tryz.prog 27 #[a, b] w fun e w' => e = .returned (.bool r) ∧ Below w.heap.size w w' := by
  have h1 := r_Sorted_any a l w ha hl
  have h2 := fun W (hW : Below w.heap.size w W) => r_Sorted_any b k W (AttsV.mono (AttsV.keep hb hW) hW.size) hk
  have hS := fun (v u : Value) W (hv : AttsV W W.heap.size v (Idn.rSorted l)) (hu : AttsV W W.heap.size u (Idn.rSorted k)) => r6_Same_any v u (Idn.rSorted l) (Idn.rSorted k) r hr W hv hu (by have := hls.1; omega) (by have := hks.1; omega) (fun x hx => by have := (hls.2 x hx).2.1; omega) (fun x hx => by have := (hks.2 x hx).2.1; omega)
  clear hr
  go_enter Tryz.func27, Tryz.ntmps27
  go_wp2_with fail
  refine h1.mono ?_
  rintro e w1 ⟨v1, ps1, rfl, hr1, hp1, hb1⟩
  clear h1
  go_wp2_with fail
  refine (h2 w1 hb1).mono ?_
  rintro e w2 ⟨v2, ps2, rfl, hr2, hp2, hb2⟩
  have hbw2 := hb1.trans (hb2.mono hb1.size)
  have hq := hS v1 v2 w2 (AttsV.mono (AttsV.keep (AttRow.atts hr1 hp1) hb2) hb2.size) (AttRow.atts hr2 hp2)
  clear h2 hS hr1 hr2 hp1 hp2
  go_wp2_with fail
  refine hq.mono ?_
  rintro e w3 ⟨rfl, hb3⟩
  go_wp2_with fail
  go_ret
  exact ⟨rfl, hbw2.trans (hb3.mono hbw2.size)⟩
end Go.Proofs.YtoopoglkeeoamaaGreatDoor
/- attrs.Equal, entry.Equal. -/
namespace Go.Proofs.YtoopoglkeeoamaaGreatDoor
open Go.RowKit Go.Sort
open Idn (L B Bs drop_L take_L size_L)
set_option maxRecDepth 100000 in
theorem aequal1_any (x y : Bs) (v u : Value) (a b : List Bs) (w : World) (hi hi' : Nat) (hv : StrsV w hi v a) (hu : StrsV w hi' u b) (hhi : hi ≤ w.heap.size) (hhi' : hi' ≤ w.heap.size) (ha : a.length ≤ 1000000000) (hb : b.length ≤ 1000000000) :
    Calls Tryz.prog 130 #[.agg #[.string (B x), v], .agg #[.string (B y), u]] w fun e w' => e = .returned (.bool (x == y && a == b)) ∧ ∃ q os', w' = grow (w.drewN q) os' := by
  obtain ⟨A, c, rfl, hc⟩ := hv.shape
  obtain ⟨A2, c2, rfl, hc2⟩ := hu.shape
  have hE := fun W (hW : Below w.heap.size w W) => equalS_any _ _ a b W _ _ ((hv.mono hhi).keep hW) ((hu.mono hhi').keep hW) ha hb
  go_enter Tryz.func130, Tryz.ntmps130
  go_upto_region 1 with fail
  with_reducible refine gen2D (R := fun W => Code.wp Tryz.prog _ _ _ W) ?_
  intro W hbW hdr hc1 hc2
  have x0 : W.cell? ⟨w.heap.size, 0, none⟩ = some (.string (B x)) := hc1 0 _ rfl
  have x1 : W.cell? ⟨w.heap.size, 1, none⟩ = some (.slice A a.length c) := hc1 1 _ rfl
  have y0 : W.cell? ⟨w.heap.size + 1, 0, none⟩ = some (.string (B y)) := hc2 0 _ rfl
  have y1 : W.cell? ⟨w.heap.size + 1, 1, none⟩ = some (.slice A2 b.length c2) := hc2 1 _ rfl
  have hE0 := hE W hbW
  have HD := Lib.hid hdr
  clear hdr hc1 hc2 hE
  by_cases h : x = y
  · subst h
    go_wp2_with fail
    refine hE0.mono ?_
    rintro e w2 ⟨rfl, q, rfl⟩
    go_wp2
    go_ret
    refine ⟨by simp, grown_form (hbW.trans ((below_drew0 W q).mono hbW.size)) ?_⟩
    show w.drawn ≤ W.drawn + q
    have := HD.out
    omega
  · have hne : ¬ (B x).toList = (B y).toList := by rw [toList_L, toList_L, Idn.L_B, Idn.L_B]; exact h
    have ht : ((B x).toList == (B y).toList) = false := beq_eq_false_iff_ne.2 hne
    have hxy : (x == y) = false := beq_eq_false_iff_ne.2 h
    go_wp2_with fail
    go_ret
    refine ⟨by rw [hxy]; rfl, grown_form hbW ?_⟩
    have := HD.out
    omega
set_option maxRecDepth 100000 in
set_option maxHeartbeats 1000000 in
theorem equalB_any (v u : Value) (l m : List Idn.Att) (r : Bool) (hr : r = true ↔ l = m) (w : World) (hv : AttsV w w.heap.size v l) (hu : AttsV w w.heap.size u m) (hl : l.length ≤ 1000000) (hm : m.length ≤ 1000000) (hl2 : ∀ x ∈ l, x.vals.length ≤ 1000000000) (hm2 : ∀ x ∈ m, x.vals.length ≤ 1000000000) :
    Calls Tryz.prog 111 #[v, u, .func (.func 130) #[] #[]] w fun e w' => e = .returned (.bool r) ∧ Below w.heap.size w w' := by
  obtain ⟨A, c, rfl, hc⟩ := SlV.shape hv
  obtain ⟨A2, c2, rfl, hc2⟩ := SlV.shape hu
  go_enter Tryz.func111, Tryz.ntmps111
  by_cases h0 : l.length = m.length
  · have h0I : ((l.length : Int) != (m.length : Int)) = false := by rw [h0]; simp
    have H0 := Lib.hid h0
    have HRR := Lib.hid hr
    clear h0 hr
    go_wp2_with fail
    go_loopw [17] (fun i wr => ∃ (k : Nat), k ≤ l.length ∧ i = .int .i64 k ∧ Below w.heap.size w wr ∧ Hid (l.take k = m.take k)) (fun i _ => l.length - (intOf i).toNat)
    case atStart => exact ⟨0, Nat.zero_le _, rfl, Below.refl _ _, rfl⟩
    case round =>
      obtain ⟨k, hk, rfl, hb, hinv⟩ := hrel
      obtain ⟨wo, hwo⟩ : ∃ wo : World, wo = wr := ⟨_, rfl⟩
      subst hwo
      by_cases hlt : k < l.length
      · have h0' : k < m.length := by have := H0.out; omega
        obtain ⟨b1, o1, v1, hA, hb1, d0, d1, ds⟩ := AttsV.cell (hv.keep hb) hlt
        obtain ⟨b2, o2, v2, hA2, hb2, e0, e1, es⟩ := AttsV.cell (hu.keep hb) h0'
        subst hA hA2
        obtain ⟨Av, cv, rfl, _⟩ := ds.shape
        obtain ⟨Aw, cw, rfl, _⟩ := es.shape
        have hltI : (k : Int) < (l.length : Int) := by omega
        have hltJ : (k : Int) < (m.length : Int) := by omega
        have hC := fun (W : World) (hW : Below w.heap.size wo W) => aequal1_any l[k].name (m[k]'h0').name _ _ l[k].vals (m[k]'h0').vals W w.heap.size w.heap.size (ds.keep hW) (es.keep hW) (Nat.le_trans hb.size hW.size) (Nat.le_trans hb.size hW.size) (hl2 _ (List.getElem_mem _)) (hm2 _ (List.getElem_mem _))
        have hfl : (l[k].name == (m[k]'h0').name && l[k].vals == (m[k]'h0').vals) = false → l ≠ m := fun h e => by subst e; simp at h
        have htr : (l[k].name == (m[k]'h0').name && l[k].vals == (m[k]'h0').vals) = true → Hid (l.take (k + 1) = m.take (k + 1)) := fun h => by
          rw [Bool.and_eq_true, beq_iff_eq, beq_iff_eq] at h
          show _ = _
          rw [List.take_succ_eq_append_getElem hlt, List.take_succ_eq_append_getElem h0', hinv.out, att_ext h.1 h.2]
        clear hinv
        generalize (l[k].name == (m[k]'h0').name && l[k].vals == (m[k]'h0').vals) = bb at *
        generalize l[k].name = n1 at *
        generalize (m[k]'h0').name = n2 at *
        generalize l[k].vals.length = z1 at *
        generalize (m[k]'h0').vals.length = z2 at *
        go_upto_region 6 with fail
        with_reducible refine gen1 (R := fun W => Code.wp Tryz.prog _ _ _ W) ?_
        intro W6 hbW6 hszW6 hc6 _
        have x0 : W6.cell? ⟨wo.heap.size, 0, none⟩ = some (.string (B n1)) := hc6 0 _ rfl
        have x1 : W6.cell? ⟨wo.heap.size, 1, none⟩ = some (.slice Av z1 cv) := hc6 1 _ rfl
        replace e0 := cell_later hbW6 e0
        replace e1 := cell_later hbW6 e1
        clear hc6 d0 d1 hszW6
        go_upto_region 7 with fail
        with_reducible refine gen1 (R := fun W => Code.wp Tryz.prog _ _ _ W) ?_
        intro W7 hbW7 hszW7 hc7 _
        have y0 : W7.cell? ⟨W6.heap.size, 0, none⟩ = some (.string (B n2)) := hc7 0 _ rfl
        have y1 : W7.cell? ⟨W6.heap.size, 1, none⟩ = some (.slice Aw z2 cw) := hc7 1 _ rfl
        replace x0 := cell_later hbW7 x0
        replace x1 := cell_later hbW7 x1
        have hB2 : Below w.heap.size wo W7 := (hbW6.trans (hbW7.mono hbW6.size)).mono hb.size
        clear hc7 e0 e1 hszW7 hbW6 hbW7 ds es
        go_wp2_with fail
        refine (hC W7 hB2).mono ?_
        rintro e w2 ⟨rfl, q, os, rfl⟩
        have hb7 := (hb.trans hB2).trans ((below_drewn W7 q os).mono (hb.trans hB2).size)
        generalize grow (W7.drewN q) os = w2 at *
        clear hC x0 x1 y0 y1
        cases bb
        · have HN := Lib.hid (no_true HRR.out (hfl rfl))
          clear hfl htr
          go_wp2_with fail
          go_ret
          exact ⟨ret_bool HN.out.symm, hb7⟩
        · have HF := htr rfl
          clear hfl htr
          go_wp2_with fail
          go_roundw
          case rel => exact ⟨k + 1, by omega, by go_num, hb7, HF⟩
          case measure => simp [intOf]; omega
      · have hltI : ¬ (k : Int) < (l.length : Int) := by omega
        have hltJ : ¬ (k : Int) < (m.length : Int) := by have := H0.out; omega
        have HF : Hid (r = true) := HRR.out.2 (by
          have h1 := hinv.out
          have h2 := H0.out
          rwa [List.take_of_length_le (by omega), List.take_of_length_le (by omega)] at h1)
        clear hinv
        go_wp2_with fail
        go_ret
        exact ⟨ret_bool HF.out.symm, hb⟩
  · have h0I : ((l.length : Int) != (m.length : Int)) = true := by rw [bne_iff_ne]; omega
    have HF := Lib.hid (no_true hr fun h => h0 (by rw [h]))
    go_wp2_with fail
    go_ret
    exact ⟨ret_bool HF.out.symm, Below.refl _ _⟩
set_option maxRecDepth 100000 in
theorem attrsEqual_any (a b : Value) (l k : List Idn.Att) (r : Bool) (hr : r = true ↔ Idn.rSorted l = Idn.rSorted k) (w : World) (ha : AttsV w w.heap.size a l) (hb : AttsV w w.heap.size b k) (hl : Idn.ASm7 l) (hk : Idn.ASm7 k) (hls : Idn.ASm7 (Idn.rSorted l)) (hks : Idn.ASm7 (Idn.rSorted k)) :
    Calls Tryz.prog 73 #[a, b] w fun e w' => e = .returned (.bool r) ∧ Below w.heap.size w w' := by
  have h1 := sortedG_any a l w ha hl
  have h2 := fun W (hW : Below w.heap.size w W) => sortedG_any b k W (AttsV.mono (AttsV.keep hb hW) hW.size) hk
  have hS := fun (v u : Value) W (hv : AttsV W W.heap.size v (Idn.rSorted l)) (hu : AttsV W W.heap.size u (Idn.rSorted k)) => equalB_any v u (Idn.rSorted l) (Idn.rSorted k) r hr W hv hu (by have := hls.1; omega) (by have := hks.1; omega) (fun x hx => by have := (hls.2 x hx).2.1; omega) (fun x hx => by have := (hks.2 x hx).2.1; omega)
  clear hr
  go_enter Tryz.func73, Tryz.ntmps73
  go_wp2_with fail
  refine h1.mono ?_
  rintro e w1 ⟨v1, ps1, rfl, hr1, hp1, hb1⟩
  clear h1
  go_wp2_with fail
  refine (h2 w1 hb1).mono ?_
  rintro e w2 ⟨v2, ps2, rfl, hr2, hp2, hb2⟩
  have hbw2 := hb1.trans (hb2.mono hb1.size)
  have hq := hS v1 v2 w2 ((hr1.keep hb2).atts hp1) (hr2.atts hp2)
  clear h2 hS hr1 hr2 hp1 hp2
  go_wp2_with fail
  refine hq.mono ?_
  rintro e w3 ⟨rfl, hb3⟩
  go_wp2_with fail
  go_ret
  exact ⟨rfl, hbw2.trans (hb3.mono hbw2.size)⟩
set_option maxRecDepth 100000 in
theorem r8_Equal_any (n m : ByteArray) (a b : Value) (l k : List Idn.Att) (r : Bool) (hr : r = true ↔ L n = L m ∧ Idn.rSorted l = Idn.rSorted k) (w : World) (ha : AttsV w w.heap.size a l) (hb : AttsV w w.heap.size b k) (hl : Idn.ASm7 l) (hk : Idn.ASm7 k) (hls : Idn.ASm7 (Idn.rSorted l)) (hks : Idn.ASm7 (Idn.rSorted k)) :
    Calls Tryz.prog 31 #[.agg #[.string n, a], .agg #[.string m, b]] w fun e w' => e = .returned (.bool r) ∧ Below w.heap.size w w' := by
  have hS := fun rr hrr W (hW : Below w.heap.size w W) => r6_Equal_any a b l k rr hrr W (AttsV.mono (AttsV.keep ha hW) hW.size) (AttsV.mono (AttsV.keep hb hW) hW.size) hl hk hls hks
  obtain ⟨A, c, rfl, _⟩ := SlV.shape ha
  obtain ⟨A2, c2, rfl, _⟩ := SlV.shape hb
  have ht : (n.toList == m.toList) = decide (L n = L m) := str_beq n m
  go_enter Tryz.func31, Tryz.ntmps31
  go_upto_region 1 with fail
  with_reducible refine gen2 (R := fun W => Code.wp Tryz.prog _ _ _ W) ?_
  intro W hbW hszW hc1 hc2
  have a0 : W.cell? ⟨w.heap.size, 0, none⟩ = some (.string n) := hc1 0 _ rfl
  have a1 : W.cell? ⟨w.heap.size, 1, none⟩ = some (.slice A l.length c) := hc1 1 _ rfl
  have b0 : W.cell? ⟨w.heap.size + 1, 0, none⟩ = some (.string m) := hc2 0 _ rfl
  have b1 : W.cell? ⟨w.heap.size + 1, 1, none⟩ = some (.slice A2 k.length c2) := hc2 1 _ rfl
  clear hc1 hc2 hszW
  by_cases hn : L n = L m
  · rw [decide_eq_true hn] at ht
    have hq := hS r ⟨fun h => (hr.1 h).2, fun h => hr.2 ⟨hn, h⟩⟩ W hbW
    clear hS hr hn
    go_wp2_with fail
    refine hq.mono ?_
    rintro e w1 ⟨rfl, hb1⟩
    go_wp2_with fail
    go_ret
    exact ⟨by first | rfl | (cases r <;> rfl), hbW.trans (hb1.mono hbW.size)⟩
  · rw [decide_eq_false hn] at ht
    have HF := Lib.hid (no_true hr fun h => hn h.1)
    clear hS hr hn
    go_wp2_with fail
    go_ret
    exact ⟨ret_bool HF.out.symm, hbW⟩
set_option maxRecDepth 100000 in
theorem eEqual_any (n m : ByteArray) (a b : Value) (l k : List Idn.Att) (r : Bool) (hr : r = true ↔ L n = L m ∧ Idn.rSorted l = Idn.rSorted k) (w : World) (ha : AttsV w w.heap.size a l) (hb : AttsV w w.heap.size b k) (hl : Idn.ASm7 l) (hk : Idn.ASm7 k) (hls : Idn.ASm7 (Idn.rSorted l)) (hks : Idn.ASm7 (Idn.rSorted k)) :
    Calls Tryz.prog 30 #[.agg #[.string n, a], .agg #[.string m, b]] w fun e w' => e = .returned (.bool r) ∧ Below w.heap.size w w' := by
  have hS := fun rr hrr W (hW : Below w.heap.size w W) => attrsEqual_any a b l k rr hrr W (AttsV.mono (AttsV.keep ha hW) hW.size) (AttsV.mono (AttsV.keep hb hW) hW.size) hl hk hls hks
  obtain ⟨A, c, rfl, _⟩ := SlV.shape ha
  obtain ⟨A2, c2, rfl, _⟩ := SlV.shape hb
  have ht : (n.toList == m.toList) = decide (L n = L m) := str_beq n m
  go_enter Tryz.func30, Tryz.ntmps30
  go_upto_region 1 with fail
  with_reducible refine gen2 (R := fun W => Code.wp Tryz.prog _ _ _ W) ?_
  intro W hbW hszW hc1 hc2
  have a0 : W.cell? ⟨w.heap.size, 0, none⟩ = some (.string n) := hc1 0 _ rfl
  have a1 : W.cell? ⟨w.heap.size, 1, none⟩ = some (.slice A l.length c) := hc1 1 _ rfl
  have b0 : W.cell? ⟨w.heap.size + 1, 0, none⟩ = some (.string m) := hc2 0 _ rfl
  have b1 : W.cell? ⟨w.heap.size + 1, 1, none⟩ = some (.slice A2 k.length c2) := hc2 1 _ rfl
  clear hc1 hc2 hszW
  by_cases hn : L n = L m
  · rw [decide_eq_true hn] at ht
    have hq := hS r ⟨fun h => (hr.1 h).2, fun h => hr.2 ⟨hn, h⟩⟩ W hbW
    clear hS hr hn
    go_wp2_with fail
    refine hq.mono ?_
    rintro e w1 ⟨rfl, hb1⟩
    go_wp2_with fail
    go_ret
    exact ⟨by first | rfl | (cases r <;> rfl), hbW.trans (hb1.mono hbW.size)⟩
  · rw [decide_eq_false hn] at ht
    have HF := Lib.hid (no_true hr fun h => hn h.1)
    clear hS hr hn
    go_wp2_with fail
    go_ret
    exact ⟨ret_bool HF.out.symm, hbW⟩
end Go.Proofs.YtoopoglkeeoamaaGreatDoor
/- law08: EntryDiffs, walked. -/
namespace Go.Proofs.YtoopoglkeeoamaaGreatDoor
open Go.RowKit Go.Sort
open Idn (L B Bs drop_L take_L size_L)
theorem rSorted_small {l : List Idn.Att} (h : ASmall l) : Idn.ASm7 (Idn.rSorted l) := by
  refine ⟨by have := rSorted_len l; have := h.1; omega, fun a ha => ?_⟩
  unfold Idn.rSorted at ha
  obtain ⟨n, hn, rfl⟩ := List.mem_map.1 ha
  have hv : ∀ x ∈ Idn.valsOf l n, x.length ≤ 300 := fun x hx => by
    unfold Idn.valsOf at hx
    obtain ⟨b, hb, hx⟩ := List.mem_flatMap.1 hx
    exact (h.2 b (List.mem_filter.1 hb).1).2.2 x hx
  refine ⟨?_, ?_, fun x hx => ?_⟩
  · rw [Idn.insAll_mem] at hn
    unfold Idn.lows at hn
    obtain ⟨b, hb, rfl⟩ := List.mem_map.1 hn
    show (Idn.lower b.name).length ≤ _
    rw [Idn.length_lower]
    have := (h.2 b (List.mem_filter.1 hb).1).2.1
    omega
  · show (Idn.insAll (Idn.valsOf l n)).length ≤ _
    have h1 := insAll_len (Idn.valsOf l n)
    have h2 := vals_len (l := l) (c := 20) (fun a ha => (h.2 a ha).1) n
    have h3 : l.length * 20 ≤ 40 * 20 := Nat.mul_le_mul_right _ h.1
    omega
  · have hx' : x ∈ Idn.insAll (Idn.valsOf l n) := hx
    rw [Idn.insAll_mem] at hx'
    have := hv x hx'
    omega
theorem eDiff_len9 {n m : Bs} {l k : List Idn.Att} (hl : ASmall l) (hk : ASmall k) : (eDiff n l m k).length ≤ 1000000000 ∧ ∀ d ∈ eDiff n l m k, d.vals.length ≤ 1000000000 := by
  rw [rEDiff_unf]
  split
  · simp
  · have h1 := rSorted_small hl
    have h2 := rSorted_small hk
    generalize Idn.rSorted l = x at *
    generalize Idn.rSorted k = y at *
    have key : ∀ (N : Nat) (x y : List Idn.Att), x.length + y.length ≤ N → (∀ a ∈ x, a.vals.length ≤ 1100000) → (∀ a ∈ y, a.vals.length ≤ 1100000) → (rDiffK x y).length ≤ 2 * N ∧ ∀ d ∈ rDiffK x y, d.vals.length ≤ 1100000 := by
      intro N
      induction N with
      | zero =>
        intro x y hN _ _
        obtain rfl : x = [] := List.eq_nil_of_length_eq_zero (by omega)
        obtain rfl : y = [] := List.eq_nil_of_length_eq_zero (by omega)
        rw [rd_none]; simp
      | succ N ih =>
        intro x y hN hx hy
        match x, y, hN, hx, hy with
        | [], [], _, _, _ => rw [rd_none]; simp
        | a :: x, [], hN, hx, hy =>
          rw [rd_left]
          simp only [List.length_cons, List.length_nil] at hN
          have h := ih x [] (by simp; omega) (fun b hb => hx b (List.mem_cons_of_mem _ hb)) hy
          refine ⟨by rw [List.length_cons]; omega, fun d hd => ?_⟩
          rcases List.mem_cons.1 hd with rfl | hd
          · simp
          · exact h.2 d hd
        | [], b :: y, hN, hx, hy =>
          rw [rd_right]
          simp only [List.length_cons, List.length_nil] at hN
          have h := ih [] y (by simp; omega) hx (fun b hb => hy b (List.mem_cons_of_mem _ hb))
          refine ⟨by rw [List.length_cons]; omega, fun d hd => ?_⟩
          rcases List.mem_cons.1 hd with rfl | hd
          · exact hy b List.mem_cons_self
          · exact h.2 d hd
        | a :: x, b :: y, hN, hx, hy =>
          simp only [List.length_cons] at hN
          by_cases h1 : a.name < b.name
          · rw [rd_lt _ _ h1]
            have h := ih x (b :: y) (by simp; omega) (fun b hb => hx b (List.mem_cons_of_mem _ hb)) hy
            refine ⟨by rw [List.length_cons]; omega, fun d hd => ?_⟩
            rcases List.mem_cons.1 hd with rfl | hd
            · simp
            · exact h.2 d hd
          · by_cases h2 : b.name < a.name
            · rw [rd_gt _ _ h1 h2]
              have h := ih (a :: x) y (by simp; omega) hx (fun b hb => hy b (List.mem_cons_of_mem _ hb))
              refine ⟨by rw [List.length_cons]; omega, fun d hd => ?_⟩
              rcases List.mem_cons.1 hd with rfl | hd
              · exact hy b List.mem_cons_self
              · exact h.2 d hd
            · rw [rd_eq _ _ h1 h2]
              have h := ih x y (by omega) (fun b hb => hx b (List.mem_cons_of_mem _ hb)) (fun b hb => hy b (List.mem_cons_of_mem _ hb))
              have ha := hx a List.mem_cons_self
              have hb := hy b List.mem_cons_self
              have hr : (rDif a b).length ≤ 2 ∧ ∀ d ∈ rDif a b, d.vals.length ≤ 1100000 := by
                have m1 := minus_len a.vals b.vals
                have m2 := minus_len b.vals a.vals
                unfold rDif
                split
                · exact ⟨by simp, fun d hd => by rw [List.mem_singleton] at hd; subst hd; exact hb⟩
                · refine ⟨by rw [List.length_append]; split <;> split <;> simp, fun d hd => ?_⟩
                  rcases List.mem_append.1 hd with hd | hd
                  · split at hd
                    · rw [List.mem_singleton] at hd; subst hd; show (minus a.vals b.vals).length ≤ _; omega
                    · simp at hd
                  · split at hd
                    · rw [List.mem_singleton] at hd; subst hd; show (minus b.vals a.vals).length ≤ _; omega
                    · simp at hd
              refine ⟨by rw [List.length_append]; omega, fun d hd => ?_⟩
              rcases List.mem_append.1 hd with hd | hd
              · exact hr.2 d hd
              · exact h.2 d hd
    have h := key (x.length + y.length) x y (Nat.le_refl _) (fun a ha => (h1.2 a ha).2.1) (fun a ha => (h2.2 a ha).2.1)
    have e1 := h1.1
    have e2 := h2.1
    exact ⟨by omega, fun d hd => by have := h.2 d hd; omega⟩
set_option maxHeartbeats 8000000 in
set_option maxRecDepth 100000 in
theorem entryDiffs_any (n : ByteArray) (a : Value) (l : List Idn.Att) (m : ByteArray) (b : Value) (k : List Idn.Att) (w : World) (hva : AttsV w w.heap.size a l) (hal : ALen8 l) (hn : n.size ≤ 9223372036854775807) (hvb : AttsV w w.heap.size b k) (hbl : ALen8 k) (hm : m.size ≤ 9223372036854775807) (hE : Env w) (hU : EnvU w) :
    Calls Tryz.prog 9 #[.agg #[.string n, a], .agg #[.string m, b]] w fun e w' => e = .returned (.bool true) ∧ Below w.heap.size w w' := by
  have hA := fun W (hW : Below w.heap.size w W) => AttsV.mono (AttsV.keep hva hW) hW.size
  have hB := fun W (hW : Below w.heap.size w W) => AttsV.mono (AttsV.keep hvb hW) hW.size
  have hS1 := fun W (hW : Below w.heap.size w W) => short8_any n a l W (hA W hW) hal hn
  have hS2 := fun W (hW : Below w.heap.size w W) => short8_any m b k W (hB W hW) hbl hm
  have hEx := fun W (hW : Below w.heap.size w W) => example_any W (hE.keep hW) (hU.keep hW)
  have hva0 := hva
  obtain ⟨A, c, rfl, hc⟩ := SlV.shape hva
  obtain ⟨A2, c2, rfl, hc2⟩ := SlV.shape hvb
  clear hE hU
  go_enter Tryz.func9, Tryz.ntmps9
  go_upto_region 1 with fail
  with_reducible refine gen2 (R := fun W => Code.wp Tryz.prog _ _ _ W) ?_
  intro W hbW hszW hc1 hc2'
  have a0 : W.cell? ⟨w.heap.size, 0, none⟩ = some (.string n) := hc1 0 _ rfl
  have a1 : W.cell? ⟨w.heap.size, 1, none⟩ = some (.slice A l.length c) := hc1 1 _ rfl
  have b0 : W.cell? ⟨w.heap.size + 1, 0, none⟩ = some (.string m) := hc2' 0 _ rfl
  have b1 : W.cell? ⟨w.heap.size + 1, 1, none⟩ = some (.slice A2 k.length c2) := hc2' 1 _ rfl
  clear hc1 hc2' hszW
  go_wp2_with fail
  refine (hS1 W hbW).mono ?_
  rintro e w1 ⟨r, rfl, hr, hb1⟩
  replace a0 := cell_later hb1 a0
  replace a1 := cell_later hb1 a1
  replace b0 := cell_later hb1 b0
  replace b1 := cell_later hb1 b1
  have hb := hbW.trans (hb1.mono hbW.size)
  have HR1 := Lib.hid hr
  clear hS1 hb1 hbW hr
  cases r
  · clear HR1
    go_wp2_with fail
    refine (hEx w1 hb).mono ?_
    rintro e w2 ⟨rfl, hb2⟩
    go_wp2_with fail
    go_ret
    exact ⟨rfl, hb.trans (hb2.mono hb.size)⟩
  go_wp2_with fail
  refine (hS2 w1 hb).mono ?_
  rintro e w2 ⟨r2, rfl, hr2, hb2⟩
  replace a0 := cell_later hb2 a0
  replace a1 := cell_later hb2 a1
  replace b0 := cell_later hb2 b0
  replace b1 := cell_later hb2 b1
  have hbw2 := hb.trans (hb2.mono hb.size)
  have HR2 := Lib.hid hr2
  clear hS2 hb2 hb hr2
  cases r2
  · clear HR1 HR2
    go_wp2_with fail
    refine (hEx w2 hbw2).mono ?_
    rintro e w3 ⟨rfl, hb3⟩
    go_wp2_with fail
    go_ret
    exact ⟨rfl, hbw2.trans (hb3.mono hbw2.size)⟩
  obtain ⟨hn9, hsm⟩ := HR1.out (by trivial)
  obtain ⟨hm9, hsk⟩ := HR2.out (by trivial)
  obtain ⟨u1, u2, u3⟩ := hsm.sm
  obtain ⟨v1, v2, v3⟩ := hsk.sm
  obtain ⟨bq, hbq⟩ : ∃ bq : Bool, bq = true ↔ L n = L m ∧ Idn.rSorted l = Idn.rSorted k := by
    by_cases h : L n = L m ∧ Idn.rSorted l = Idn.rSorted k
    · exact ⟨true, fun _ => h, fun _ => rfl⟩
    · exact ⟨false, fun e => (by cases e), fun e => absurd e h⟩
  have k1 := fun W (hW : Below w.heap.size w W) => diff_any n m _ _ l k W (hA W hW) (hB W hW) (by omega) (by omega) u1 v1
  have k2 := fun W (hW : Below w.heap.size w W) => r8_Diff_any n m _ _ l k W (hA W hW) (hB W hW) (by omega) (by omega) u1 v1
  have k4 := fun W (hW : Below w.heap.size w W) => eEqual_any n m _ _ l k bq hbq W (hA W hW) (hB W hW) u3 v3 (rSorted_small hsm) (rSorted_small hsk)
  have k5 := fun W (hW : Below w.heap.size w W) => r8_Equal_any n m _ _ l k bq hbq W (hA W hW) (hB W hW) u3 v3 (rSorted_small hsm) (rSorted_small hsk)
  obtain ⟨g1, g2⟩ := eDiff_len9 (n := L n) (m := L m) hsm hsk
  have k3 := fun (v u : Value) W h1 h2 => sameMods_any v u (eDiff (L n) l (L m) k) (eDiff (L n) l (L m) k) true ⟨fun _ => rfl, fun _ => rfl⟩ W h1 h2 g1 g1 g2 g2
  clear hsm hsk HR1 HR2 hn9 hm9 u1 u2 u3 v1 v2 v3 hbq hA hB g1 g2 hva0 hva hvb
  generalize eDiff (L n) l (L m) k = ms at *
  have t1 : (bq == bq) = true := by simp
  have hSt : ∀ W', Below w2.heap.size w2 W' → W'.cell? ⟨w.heap.size, 0, none⟩ = some (.string n) ∧ W'.cell? ⟨w.heap.size, 1, none⟩ = some (.slice A l.length c) ∧ W'.cell? ⟨w.heap.size + 1, 0, none⟩ = some (.string m) ∧ W'.cell? ⟨w.heap.size + 1, 1, none⟩ = some (.slice A2 k.length c2) ∧ Below w2.heap.size w2 W' := fun W' hW =>
    ⟨cell_later hW a0, cell_later hW a1, cell_later hW b0, cell_later hW b1, hW⟩
  have d1 := fun W (hW : Below w2.heap.size w2 W) => k1 W (hbw2.trans (hW.mono hbw2.size))
  have d2 := fun W (hW : Below w2.heap.size w2 W) => k2 W (hbw2.trans (hW.mono hbw2.size))
  have d4 := fun W (hW : Below w2.heap.size w2 W) => k4 W (hbw2.trans (hW.mono hbw2.size))
  have d5 := fun W (hW : Below w2.heap.size w2 W) => k5 W (hbw2.trans (hW.mono hbw2.size))
  have d6 := fun W (hW : Below w2.heap.size w2 W) => hEx W (hbw2.trans (hW.mono hbw2.size))
  clear k1 k2 k4 k5 hEx a0 a1 b0 b1
  go_wp2_with fail
  go_region_held3 (fun W' => W'.cell? ⟨w.heap.size, 0, none⟩ = some (.string n) ∧ W'.cell? ⟨w.heap.size, 1, none⟩ = some (.slice A l.length c) ∧ W'.cell? ⟨w.heap.size + 1, 0, none⟩ = some (.string m) ∧ W'.cell? ⟨w.heap.size + 1, 1, none⟩ = some (.slice A2 k.length c2) ∧ Below w2.heap.size w2 W')
    (first | (refine hSt _ ?_; repeat (first | with_reducible exact Below.refl _ _ | with_reducible apply Below.drew | with_reducible refine Below.on ?_ ha1 | with_reducible refine Below.on ?_ ha2 | with_reducible refine Below.on ?_ ha3 | with_reducible refine Below.on ?_ ha4 | with_reducible refine Below.on ?_ ha5 | with_reducible refine Below.on ?_ ha6)))
    (first
      | (go_at_call 25; refine (d1 _ (by repeat (first | with_reducible exact Below.refl _ _ | with_reducible apply Below.drew | with_reducible refine Below.on ?_ ha2))).mono ?_; rintro e x1 ⟨vv1, ps1, rfl, hown1, hps1, ha1⟩; have hm1 := hown1.mods hps1; obtain ⟨A7, c7, hv7⟩ := own_shape hown1.1; subst hv7; clear hown1 hps1)
      | (go_at_call 29; refine (d2 _ (by repeat (first | with_reducible exact Below.refl _ _ | with_reducible apply Below.drew | with_reducible refine Below.on ?_ ha1))).mono ?_; rintro e x2 ⟨vv2, rfl, hm2, ha2⟩; obtain ⟨A8, c8, hv8, _⟩ := SlV.shape hm2; subst hv8)
      | (go_at_call 28
         refine (k3 _ _ _ (ModsV.mono (ModsV.keep hm1 ?_) ?_) (ModsV.mono (ModsV.keep hm2 ?_) ?_)).mono ?_
         · repeat (first | with_reducible exact Below.refl _ _ | with_reducible apply Below.drew | with_reducible refine Below.on ?_ ha2 | with_reducible refine Below.on ?_ ha1)
         · first | exact Nat.le_refl _ | (have := ha2.size; (try simp at this ⊢); omega) | (have := ha1.size; (try simp at this ⊢); omega)
         · repeat (first | with_reducible exact Below.refl _ _ | with_reducible apply Below.drew | with_reducible refine Below.on ?_ ha1 | with_reducible refine Below.on ?_ ha2)
         · first | exact Nat.le_refl _ | (have := ha1.size; (try simp at this ⊢); omega) | (have := ha2.size; (try simp at this ⊢); omega)
         rintro e x3 ⟨rfl, ha3⟩)
      | (go_at_call 30; refine (d4 _ (by repeat (first | with_reducible exact Below.refl _ _ | with_reducible apply Below.drew | with_reducible refine Below.on ?_ ha1 | with_reducible refine Below.on ?_ ha2 | with_reducible refine Below.on ?_ ha3 | with_reducible refine Below.on ?_ ha5))).mono ?_; rintro e x4 ⟨rfl, ha4⟩)
      | (go_at_call 31; refine (d5 _ (by repeat (first | with_reducible exact Below.refl _ _ | with_reducible apply Below.drew | with_reducible refine Below.on ?_ ha1 | with_reducible refine Below.on ?_ ha2 | with_reducible refine Below.on ?_ ha3 | with_reducible refine Below.on ?_ ha4))).mono ?_; rintro e x5 ⟨rfl, ha5⟩)
      | (go_at_call 13; refine (d6 _ (by repeat (first | with_reducible exact Below.refl _ _ | with_reducible apply Below.drew | with_reducible refine Below.on ?_ ha1 | with_reducible refine Below.on ?_ ha2 | with_reducible refine Below.on ?_ ha3 | with_reducible refine Below.on ?_ ha4 | with_reducible refine Below.on ?_ ha5))).mono ?_; rintro e x6 ⟨rfl, ha6⟩))
  all_goals
    have hfin : Below w2.heap.size w2 x6 := by repeat (first | with_reducible exact Below.refl _ _ | with_reducible apply Below.drew | with_reducible refine Below.on ?_ ha1 | with_reducible refine Below.on ?_ ha2 | with_reducible refine Below.on ?_ ha3 | with_reducible refine Below.on ?_ ha4 | with_reducible refine Below.on ?_ ha5 | with_reducible refine Below.on ?_ ha6)
    go_wp2_with fail
    go_ret
    exact ⟨rfl, hbw2.trans (hfin.mono hbw2.size)⟩
end Go.Proofs.YtoopoglkeeoamaaGreatDoor
