/- Part 50 of the proof that laws of identitylaw11 return true at every argument within the bound: the package variables hold what the program lays; nothing else is asked. -/
import Derived.Test.YtgjllfonmgfhgaaGreatDoorIra23
import Derived.Test.YtgjllfonmgfhgaaGreatDoorIra25
set_option linter.unusedVariables false
set_option linter.unusedSimpArgs false
/- identityref05: Compare. -/
namespace Go.Proofs.YtgjllfonmgfhgaaGreatDoor
open Go.RowKit Go.Sort
open Idn (L B Bs drop_L take_L size_L)
theorem cmpB_same (a : Bs) : cmpB a a = 0 := by
  unfold cmpB
  rw [if_neg (List.lt_irrefl a), if_neg (List.lt_irrefl a)]
theorem cmpB_diff {a b : Bs} (h : ¬ a = b) : cmpB a b ≠ 0 := by
  unfold cmpB
  by_cases h1 : a < b
  · rw [if_pos h1]; decide
  · rw [if_neg h1]
    by_cases h2 : b < a
    · rw [if_pos h2]; decide
    · exact absurd (Decidable.byContradiction fun e => h2 (Idn.lt_of _ _ h1 e)) h
theorem cmpNm_parts (a b : Bs) : cmpNm a b = if (partsN a).2 then (if (partsN b).2 then cmpL (partsN a).1.reverse (partsN b).1.reverse else -1) else if (partsN b).2 then 1 else cmpB a b := by
  unfold cmpNm partsN
  rw [normal_valid, normal_valid]
  cases ha : validN a <;> cases hb : validN b
  · rfl
  · rfl
  · rfl
  · simp only [if_true, (normal_parts ha).1, (normal_parts hb).1]
theorem parts_sm (s : Bs) : (partsN s).1.length ≤ 8 := by
  unfold partsN
  split
  · exact (parse_sm s).1
  · simp
set_option maxHeartbeats 2000000 in
set_option maxRecDepth 100000 in
theorem r5_Compare_any (a b : ByteArray) (w : World) (ha : a.size ≤ 1000000000) (hb : b.size ≤ 1000000000) :
    Calls Tryz.prog 32 #[.string a, .string b] w fun e w' => e = .returned (.int .i64 (cmpNm (L a) (L b))) ∧ Below w.heap.size w w' := by
  have h1 := r5_parts_any a w ha
  have h2 := fun W => r5_parts_any b W hb
  have hla := parts_sm (L a)
  have hlb := parts_sm (L b)
  rw [cmpNm_parts]
  generalize hr : (if (partsN (L a)).2 then (if (partsN (L b)).2 then cmpL (partsN (L a)).1.reverse (partsN (L b)).1.reverse else -1) else if (partsN (L b)).2 then 1 else cmpB (L a) (L b)) = r
  have HR : Hid (r = if (partsN (L a)).2 then (if (partsN (L b)).2 then cmpL (partsN (L a)).1.reverse (partsN (L b)).1.reverse else -1) else if (partsN (L b)).2 then 1 else cmpB (L a) (L b)) := hr.symm
  have hCS := fun W => r5_bytes_any a b W
  generalize partsN (L a) = na at *
  generalize partsN (L b) = nb at *
  obtain ⟨l, ok⟩ := na
  obtain ⟨m, is⟩ := nb
  dsimp only at HR hla hlb
  generalize cmpB (L a) (L b) = cb at *
  clear hr
  go_enter Tryz.func32, Tryz.ntmps32
  go_wp2_with fail
  refine h1.mono ?_
  rintro e w1 ⟨v1, rfl, ho1, hb1⟩
  obtain ⟨A, c, hv⟩ := own_shape ho1
  subst hv
  clear h1
  dsimp only at *
  go_wp2_with fail
  refine (h2 w1).mono ?_
  rintro e w3 ⟨v3, rfl, ho3, hb3⟩
  obtain ⟨A', c', hv⟩ := own_shape ho3
  subst hv
  have hbw3 := hb1.trans (hb3.mono hb1.size)
  have hP1 := PairsV.of_own (own_below ho1 hb3)
  have hP2 := PairsV.of_own ho3
  clear h2 ho1 ho3
  dsimp only at *
  cases ok
  · cases is
    · have HF : Hid (r = cb) := HR.out
      clear HR
      go_wp2_with fail
      refine (hCS _).mono ?_
      rintro e w5 ⟨rfl, rfl⟩
      go_wp2
      go_ret
      exact ⟨ret_int HF.out.symm, hbw3⟩
    · have HF : Hid (r = 1) := HR.out
      clear HR
      go_wp2
      go_ret
      exact ⟨ret_int HF.out.symm, hbw3⟩
  · cases is
    · have HF : Hid (r = -1) := HR.out
      clear HR
      go_wp2
      go_ret
      exact ⟨ret_int HF.out.symm, hbw3⟩
    · have HF : Hid (r = cmpL l.reverse m.reverse) := HR.out
      clear HR hCS
      have hst := cmpL_step l.reverse m.reverse
      have hen := cmpL_end l.reverse m.reverse
      simp only [List.length_reverse] at hst hen
      have HST := Lib.hid hst
      have HEN := Lib.hid hen
      clear hst hen
      go_wp2
      go_loopw [9] (fun x wr => ∃ i : Nat, 1 ≤ i ∧ i ≤ l.length + 1 ∧ i ≤ m.length + 1 ∧ x = .int .i64 i ∧ Below w3.heap.size w3 wr ∧ Hid (r = cmpL (l.reverse.drop (i - 1)) (m.reverse.drop (i - 1)))) (fun x _ => l.length + 1 - (intOf x).toNat)
      case atStart => exact ⟨1, Nat.le_refl _, by omega, by omega, rfl, Below.refl _ _, HF.out⟩
      case round =>
        obtain ⟨i, hi1, hil1, him1, rfl, hb, hinv⟩ := hrel
        clear HF
        by_cases hil : i ≤ l.length
        case neg =>
          have hilI : ¬ (i : Int) ≤ (l.length : Int) := by omega
          have HG : Hid (r = Lib.compareInt l.length m.length) := by show _ = _; rw [hinv.out, HEN.out (i - 1) (by omega) (by omega) (by omega)]
          clear HST HEN hinv
          rcases Nat.lt_trichotomy l.length m.length with hc9 | hc9 | hc9
          · have h9 : (l.length : Int) < (m.length : Int) := by omega
            have HH : Hid (r = -1) := by show _ = _; rw [HG.out, Lib.compareInt, if_pos h9]
            clear HG hc9
            go_wp2
            go_ret
            exact ⟨ret_int HH.out.symm, hbw3.trans (hb.mono hbw3.size)⟩
          · have h9 : ¬ (l.length : Int) < (m.length : Int) := by omega
            have h10 : ¬ (m.length : Int) < (l.length : Int) := by omega
            have HH : Hid (r = 0) := by show _ = _; rw [HG.out, Lib.compareInt, if_neg h9, if_neg h10]
            clear HG hc9
            go_wp2
            go_ret
            exact ⟨ret_int HH.out.symm, hbw3.trans (hb.mono hbw3.size)⟩
          · have h9 : ¬ (l.length : Int) < (m.length : Int) := by omega
            have h10 : (m.length : Int) < (l.length : Int) := by omega
            have HH : Hid (r = 1) := by show _ = _; rw [HG.out, Lib.compareInt, if_neg h9, if_pos h10]
            clear HG hc9
            go_wp2
            go_ret
            exact ⟨ret_int HH.out.symm, hbw3.trans (hb.mono hbw3.size)⟩
        case pos =>
        have hilI : (i : Int) ≤ (l.length : Int) := by omega
        by_cases him : i ≤ m.length
        case neg =>
          have himI : ¬ (i : Int) ≤ (m.length : Int) := by omega
          have HG : Hid (r = Lib.compareInt l.length m.length) := by show _ = _; rw [hinv.out, HEN.out (i - 1) (by omega) (by omega) (by omega)]
          clear HST HEN hinv
          rcases Nat.lt_trichotomy l.length m.length with hc9 | hc9 | hc9
          · have h9 : (l.length : Int) < (m.length : Int) := by omega
            have HH : Hid (r = -1) := by show _ = _; rw [HG.out, Lib.compareInt, if_pos h9]
            clear HG hc9
            go_wp2
            go_ret
            exact ⟨ret_int HH.out.symm, hbw3.trans (hb.mono hbw3.size)⟩
          · have h9 : ¬ (l.length : Int) < (m.length : Int) := by omega
            have h10 : ¬ (m.length : Int) < (l.length : Int) := by omega
            have HH : Hid (r = 0) := by show _ = _; rw [HG.out, Lib.compareInt, if_neg h9, if_neg h10]
            clear HG hc9
            go_wp2
            go_ret
            exact ⟨ret_int HH.out.symm, hbw3.trans (hb.mono hbw3.size)⟩
          · have h9 : ¬ (l.length : Int) < (m.length : Int) := by omega
            have h10 : (m.length : Int) < (l.length : Int) := by omega
            have HH : Hid (r = 1) := by show _ = _; rw [HG.out, Lib.compareInt, if_neg h9, if_pos h10]
            clear HG hc9
            go_wp2
            go_ret
            exact ⟨ret_int HH.out.symm, hbw3.trans (hb.mono hbw3.size)⟩
        case pos =>
        have himI : (i : Int) ≤ (m.length : Int) := by omega
        have hs := HST.out (i - 1) (by omega) (by omega)
        have e1 : l.reverse[i - 1]'(by simp; omega) = l[l.length - i]'(by omega) := by rw [List.getElem_reverse]; congr 1; omega
        have e2 : m.reverse[i - 1]'(by simp; omega) = m[m.length - i]'(by omega) := by rw [List.getElem_reverse]; congr 1; omega
        rw [e1, e2, show i - 1 + 1 = i by omega] at hs
        have HS := Lib.hid hs
        clear hs e1 e2 HST HEN
        have hli : l.length - i < l.length := by omega
        have hmi : m.length - i < m.length := by omega
        obtain ⟨b0, off, rfl, hbl, c0, c1⟩ := PairsV.cell (SlV.keep hP1 hb) hli
        obtain ⟨b1, off', rfl, hbl', d0, d1⟩ := PairsV.cell (SlV.keep hP2 hb) hmi
        have k1 : (l.length : Int) - (i : Int) = ((l.length - i : Nat) : Int) := by omega
        have k2 : (m.length : Int) - (i : Int) = ((m.length - i : Nat) : Int) := by omega
        have q1 : IntKind.i64.wrap ((l.length : Int) - (i : Int)) = ((l.length - i : Nat) : Int) := by rw [k1]; exact IntWalk.i64_in _ (by omega)
        have q2 : IntKind.i64.wrap ((m.length : Int) - (i : Int)) = ((m.length - i : Nat) : Int) := by rw [k2]; exact IntWalk.i64_in _ (by omega)
        have j1 : ((l.length - i : Nat) : Int) < (l.length : Int) := by omega
        have j2 : ((m.length - i : Nat) : Int) < (m.length : Int) := by omega
        generalize l[l.length - i] = x at *
        generalize m[m.length - i] = y at *
        generalize l.length - i = li at *
        generalize m.length - i = mi at *
        have hB1 := fun W => r5_bytes_any (B x.1) (B y.1) W
        have hB2 := fun W => r5_bytes_any (B x.2) (B y.2) W
        rw [Idn.L_B, Idn.L_B] at hB1 hB2
        have hway : (((B x.1).toList == (B y.1).toList) = false ∧ Hid (r = cmpB x.1 y.1)) ∨ (((B x.1).toList == (B y.1).toList) = true ∧ ((B x.2).toList == (B y.2).toList) = false ∧ Hid (r = cmpB x.2 y.2)) ∨
            (((B x.1).toList == (B y.1).toList) = true ∧ ((B x.2).toList == (B y.2).toList) = true ∧ Hid (r = cmpL (l.reverse.drop i) (m.reverse.drop i))) := by
          have hp := HS.out
          by_cases z1 : x.1 = y.1
          · have z1' : ((B x.1).toList == (B y.1).toList) = true := by rw [z1]; exact str_is rfl
            by_cases z2 : x.2 = y.2
            · have z2' : ((B x.2).toList == (B y.2).toList) = true := by rw [z2]; exact str_is rfl
              refine .inr (.inr ⟨z1', z2', ?_⟩)
              show _ = _
              rw [hinv.out, hp, if_pos (by rw [cmpPr, z1, z2, cmpB_same, cmpB_same]; rfl)]
            · have z2' : ((B x.2).toList == (B y.2).toList) = false := str_not (by rw [Idn.L_B, Idn.L_B]; exact z2)
              refine .inr (.inl ⟨z1', z2', ?_⟩)
              have e : cmpPr x y = cmpB x.2 y.2 := by rw [cmpPr, z1, cmpB_same]; rfl
              show _ = _
              rw [hinv.out, hp, e, if_neg (cmpB_diff z2)]
          · have z1' : ((B x.1).toList == (B y.1).toList) = false := str_not (by rw [Idn.L_B, Idn.L_B]; exact z1)
            refine .inl ⟨z1', ?_⟩
            have e : cmpPr x y = cmpB x.1 y.1 := by rw [cmpPr, or2, if_neg (cmpB_diff z1)]
            show _ = _
            rw [hinv.out, hp, e, if_neg (cmpB_diff z1)]
        clear HS hinv k1 k2 hP1 hP2
        generalize cmpB x.1 y.1 = g1 at *
        generalize cmpB x.2 y.2 = g2 at *
        go_wp2_with fail
        have hS : ∀ W', Below wr.heap.size wr W' → W'.cell? ⟨b0, off + li * 2, none⟩ = some (.string (B x.1)) ∧ W'.cell? ⟨b0, off + li * 2 + 1, none⟩ = some (.string (B x.2)) ∧ W'.cell? ⟨b1, off' + mi * 2, none⟩ = some (.string (B y.1)) ∧ W'.cell? ⟨b1, off' + mi * 2 + 1, none⟩ = some (.string (B y.2)) ∧ Below wr.heap.size wr W' := fun W' hW =>
          ⟨cell_later hW c0, cell_later hW c1, cell_later hW d0, cell_later hW d1, hW⟩
        have hw0 := Below.refl wr.heap.size wr
        go_region_held3 (fun W' => W'.cell? ⟨b0, off + li * 2, none⟩ = some (.string (B x.1)) ∧ W'.cell? ⟨b0, off + li * 2 + 1, none⟩ = some (.string (B x.2)) ∧ W'.cell? ⟨b1, off' + mi * 2, none⟩ = some (.string (B y.1)) ∧ W'.cell? ⟨b1, off' + mi * 2 + 1, none⟩ = some (.string (B y.2)) ∧ Below wr.heap.size wr W')
          (first | (refine hS _ ?_; repeat (first | with_reducible exact Below.refl _ _ | with_reducible apply Below.drew | with_reducible refine Below.lay ?_ _ | with_reducible refine Below.setCell ?_ (by simp) _)))
          (first | fail)
        all_goals
          with_reducible refine gen2d (R := fun X => Exit.then _ _ _ _ X) ?_
          intro X hbX n1 n2
          have a0 := n1 0 _ rfl
          have a1 := n1 1 _ rfl
          have a2 := n2 0 _ rfl
          have a3 := n2 1 _ rfl
          clear n1 n2 hS hw0
          have hbx := hb.trans (hbX.mono hb.size)
          have hbwx := hbw3.trans (hbx.mono hbw3.size)
          rcases hway with ⟨z1, HG⟩ | ⟨z1, z2, HG⟩ | ⟨z1, z2, HG⟩
          · clear hB2
            go_wp2_with fail
            refine (hB1 _).mono ?_
            rintro e w6 ⟨rfl, rfl⟩
            go_wp2
            go_ret
            exact ⟨ret_int HG.out.symm, hbwx⟩
          · clear hB1
            go_wp2_with fail
            refine (hB2 _).mono ?_
            rintro e w6 ⟨rfl, rfl⟩
            go_wp2
            go_ret
            exact ⟨ret_int HG.out.symm, hbwx⟩
          · clear hB1 hB2
            go_wp2
            go_roundw
            case rel => exact ⟨i + 1, by omega, by omega, by omega, by go_num, hbx, by simpa using HG⟩
            case measure => simp [intOf]; omega
end Go.Proofs.YtgjllfonmgfhgaaGreatDoor
