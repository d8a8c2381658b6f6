/- Part 46 of the proof that identitylaw08.EntryApplies returns true: the package variables hold what the program lays; nothing else is asked. -/
import Derived.Test.YtoopoglkeeoamaaGreatDoorEap41
set_option linter.unusedVariables false
set_option linter.unusedSimpArgs false
set_option maxRecDepth 100000
set_option maxHeartbeats 8000000
/- identityref07: number. -/
namespace Go.Proofs.YtoopoglkeeoamaaGreatDoor
open Go.RowKit Go.Sort
open Idn (L B Bs drop_L take_L size_L)
theorem drop0 (u : ByteArray) (h : ¬ 0 < u.size) : L u = [] := by have := drop_end u 0 h; simpa using this
theorem r7_number_any (s : ByteArray) (w : World) (hs : s.size ≤ 999999999) : Calls Tryz.prog 217 #[.string s] w fun e w' => e = .returned (.tuple #[.int .i64 (Idn.number2 (L s)).1, .bool (Idn.number2 (L s)).2]) ∧ w = w' := by
  generalize hr : Idn.number2 (L s) = r
  have HR : Hid (r = Idn.number2 (L s)) := hr.symm
  clear hr
  unfold Idn.number2 at HR
  obtain ⟨t, m, hm, hts, hmag, hway⟩ : ∃ (t : ByteArray) (m : Bool), m = Idn.isMinus (L s) ∧ t.size ≤ s.size ∧ L t = Idn.mag2 (L s) ∧
      ((m = true ∧ 0 < s.size ∧ t = s.extract 1 s.size ∧ ∃ h : 0 < s.size, ((s[0].toNat : Int) == 45) = true) ∨ (m = false ∧ t = s ∧ (¬ 0 < s.size ∨ ∃ h : 0 < s.size, ((s[0].toNat : Int) == 45) = false))) := by
    by_cases h0 : 0 < s.size
    · have hd := drop_L s 0 h0
      simp only [List.drop_zero] at hd
      by_cases h45 : s[0] = 45
      · have hm : Idn.isMinus (L s) = true := by rw [hd, h45]; rfl
        refine ⟨s.extract 1 s.size, true, hm.symm, by simp, ?_, .inl ⟨rfl, h0, rfl, h0, byte_is (d := 45) h45⟩⟩
        unfold Idn.mag2
        rw [hm, if_pos rfl, extract_drop, Idn.L_B]
        conv => rhs; rw [hd]
        rfl
      · have hm : Idn.isMinus (L s) = false := by rw [hd]; simpa [Idn.isMinus] using h45
        refine ⟨s, false, hm.symm, Nat.le_refl _, ?_, .inr ⟨rfl, rfl, .inr ⟨h0, byte_not (d := 45) h45⟩⟩⟩
        unfold Idn.mag2
        rw [hm]; rfl
    · have he : L s = [] := by have := drop_end s 0 h0; simpa using this
      refine ⟨s, false, by rw [he]; rfl, Nat.le_refl _, by rw [he]; rfl, .inr ⟨rfl, rfl, .inl h0⟩⟩
  rw [← hmag, ← hm] at HR
  clear hm hmag
  rcases hway with ⟨rfl, h0, rfl, h00, e1⟩ | ⟨rfl, rfl, h0 | ⟨h0, e1⟩⟩
  · go_enter Tryz.func217, Tryz.ntmps217
    go_wp2
    generalize s.extract 1 s.size = t at *
    go_loop [0] (fun x => ∃ u : ByteArray, x = .string u ∧ u.size ≤ t.size ∧ Hid (Idn.stripZ (L u) = Idn.stripZ (L t))) (fun x => vSize x)
    case atStart => exact ⟨t, rfl, Nat.le_refl _, rfl⟩
    case round =>
      obtain ⟨u, rfl, hut, hinv⟩ := hrel
      by_cases h1 : 1 < u.size
      · try (exfalso; omega)
        all_goals
          have h1I : (1 : Int) < (u.size : Int) := by omega
          have h2 := drop_two u 0 h1
          simp only [List.drop_zero] at h2
          by_cases h48 : u[0] = 48
          · have e48 : ((u[0].toNat : Int) == 48) = true := byte_is (d := 48) h48
            have HI : Hid (Idn.stripZ (L (u.extract 1 u.size)) = Idn.stripZ (L t)) := by
              show _ = _
              rw [← hinv.out, extract_drop, Idn.L_B, h2, Idn.stripZ, if_pos (by simpa using h48)]
              try simp
            clear h2 h48 hinv HR
            go_wp2
            go_round
            case rel => exact ⟨u.extract 1 u.size, rfl, by simp; omega, HI⟩
            case measure => simp [vSize]; omega
          · have e48 : ((u[0].toNat : Int) == 48) = false := byte_not (d := 48) h48
            have HE : Hid (L u = Idn.stripZ (L t)) := by show _ = _; rw [← hinv.out, h2, Idn.stripZ, if_neg (by simpa using h48)]
            clear h2 h48 hinv
            by_cases hu0 : 0 < u.size
            case neg =>
              first
              | (exfalso; omega)
              | (have hemp : (u.toList == ([] : List UInt8)) = true := by rw [toList_L, drop0 u hu0]; rfl
                 have HF : Hid (r = (0, false)) := by show _ = _; rw [HR.out, ← HE.out, drop0 u hu0]; rfl
                 clear HR HE
                 go_wp2
                 go_ret2
                 exact ⟨by rw [HF.out] <;> rfl, rfl⟩)
            case pos =>
            have hne : L u = u[0] :: (L u).drop 1 := by have := drop_L u 0 hu0; simpa using this
            have hemp : (u.toList == ([] : List UInt8)) = false := by rw [toList_L, hne]; rfl
            have hdg : (L u).isEmpty = false := by rw [hne]; rfl
            have hhd : (L u).headD 0 = u[0] := by rw [hne]; rfl
            clear hne
            by_cases d1 : (u[0].toNat : Int) < 48
            · have HF : Hid (r = (0, false)) := by
                show _ = _
                have : Idn.digit u[0] = false := by unfold Idn.digit; rw [Bool.and_eq_false_iff, decide_eq_false_iff_not]; left; omega
                rw [HR.out, ← HE.out, hhd, this]; simp
              clear HR HE
              go_wp2
              go_ret2
              exact ⟨by rw [HF.out] <;> rfl, rfl⟩
            · by_cases d2 : (57 : Int) < (u[0].toNat : Int)
              · have HF : Hid (r = (0, false)) := by
                  show _ = _
                  have : Idn.digit u[0] = false := by unfold Idn.digit; rw [Bool.and_eq_false_iff, decide_eq_false_iff_not, decide_eq_false_iff_not]; right; omega
                  rw [HR.out, ← HE.out, hhd, this]; simp
                clear HR HE
                go_wp2
                go_ret2
                exact ⟨by rw [HF.out] <;> rfl, rfl⟩
              · have HG : Hid (r = ((Idn.read2 (Idn.signed true (L u))).1, (Idn.read2 (Idn.signed true (L u))).2 == 0)) := by
                  show _ = _
                  have : Idn.digit u[0] = true := by rw [Idn.digit_iff]; omega
                  rw [HR.out, ← HE.out, hhd, this, hdg]; simp
                clear hdg hhd
                by_cases hz0 : L u = [48]
                · have hz : (u.toList == ([48] : List UInt8)) = true := by rw [toList_L, hz0]; rfl
                  have hQ := fun W => r_ReadInt_any (u) W (by omega)
                  have HF : Hid (r = ((Idn.read2 (L (u))).1, (Idn.read2 (L (u))).2 == 0)) := by
                    show _ = _
                    rw [HG.out]
                    rw [hz0]; rfl
                  generalize Idn.read2 (L (u)) = q at *
                  obtain ⟨n, e⟩ := q
                  dsimp only at hQ HF
                  clear HR HE HG
                  go_wp2_with (go_at_call 242; refine (hQ _).mono ?_; rintro e w1 ⟨rfl, rfl⟩)
                  go_ret2
                  exact ⟨by rw [HF.out] <;> rfl, rfl⟩
                · have hz : (u.toList == ([48] : List UInt8)) = false := by rw [toList_L]; simpa using hz0
                  have hL45 : L ((⟨#[45]⟩ : ByteArray) ++ u) = 45 :: L u := by
                    have : (⟨#[45]⟩ : ByteArray) ++ u = B (45 :: L u) := by rw [show (45 :: L u) = [45] ++ L u from rfl, ← B_app]; rfl
                    rw [this, Idn.L_B]
                  have hsz45 : ((⟨#[45]⟩ : ByteArray) ++ u).size = 1 + u.size := by
                    rw [size_L, hL45, size_L u]; simp; omega
                  have hQ := fun W => r_ReadInt_any ((⟨#[45]⟩ : ByteArray) ++ u) W (by rw [hsz45]; omega)
                  have HF : Hid (r = ((Idn.read2 (L ((⟨#[45]⟩ : ByteArray) ++ u))).1, (Idn.read2 (L ((⟨#[45]⟩ : ByteArray) ++ u))).2 == 0)) := by
                    show _ = _
                    rw [HG.out]
                    rw [hL45, Idn.signed, if_pos (by simpa using hz0)]
                  generalize Idn.read2 (L ((⟨#[45]⟩ : ByteArray) ++ u)) = q at *
                  obtain ⟨n, e⟩ := q
                  dsimp only at hQ HF
                  clear HR HE HG
                  go_wp2_with (go_at_call 242; refine (hQ _).mono ?_; rintro e w1 ⟨rfl, rfl⟩)
                  go_ret2
                  exact ⟨by rw [HF.out] <;> rfl, rfl⟩
      · have h1I : ¬ (1 : Int) < (u.size : Int) := by omega
        have HE : Hid (L u = Idn.stripZ (L t)) := by
          show _ = _
          rw [← hinv.out]
          have : (L u).length ≤ 1 := by rw [← size_L]; omega
          cases hx : L u with
          | nil => rfl
          | cons a l =>
            cases l with
            | nil => rfl
            | cons b l => rw [hx] at this; simp at this
        clear hinv
        by_cases hu0 : 0 < u.size
        case neg =>
          first
          | (exfalso; omega)
          | (have hemp : (u.toList == ([] : List UInt8)) = true := by rw [toList_L, drop0 u hu0]; rfl
             have HF : Hid (r = (0, false)) := by show _ = _; rw [HR.out, ← HE.out, drop0 u hu0]; rfl
             clear HR HE
             go_wp2
             go_ret2
             exact ⟨by rw [HF.out] <;> rfl, rfl⟩)
        case pos =>
        have hne : L u = u[0] :: (L u).drop 1 := by have := drop_L u 0 hu0; simpa using this
        have hemp : (u.toList == ([] : List UInt8)) = false := by rw [toList_L, hne]; rfl
        have hdg : (L u).isEmpty = false := by rw [hne]; rfl
        have hhd : (L u).headD 0 = u[0] := by rw [hne]; rfl
        clear hne
        by_cases d1 : (u[0].toNat : Int) < 48
        · have HF : Hid (r = (0, false)) := by
            show _ = _
            have : Idn.digit u[0] = false := by unfold Idn.digit; rw [Bool.and_eq_false_iff, decide_eq_false_iff_not]; left; omega
            rw [HR.out, ← HE.out, hhd, this]; simp
          clear HR HE
          go_wp2
          go_ret2
          exact ⟨by rw [HF.out] <;> rfl, rfl⟩
        · by_cases d2 : (57 : Int) < (u[0].toNat : Int)
          · have HF : Hid (r = (0, false)) := by
              show _ = _
              have : Idn.digit u[0] = false := by unfold Idn.digit; rw [Bool.and_eq_false_iff, decide_eq_false_iff_not, decide_eq_false_iff_not]; right; omega
              rw [HR.out, ← HE.out, hhd, this]; simp
            clear HR HE
            go_wp2
            go_ret2
            exact ⟨by rw [HF.out] <;> rfl, rfl⟩
          · have HG : Hid (r = ((Idn.read2 (Idn.signed true (L u))).1, (Idn.read2 (Idn.signed true (L u))).2 == 0)) := by
              show _ = _
              have : Idn.digit u[0] = true := by rw [Idn.digit_iff]; omega
              rw [HR.out, ← HE.out, hhd, this, hdg]; simp
            clear hdg hhd
            by_cases hz0 : L u = [48]
            · have hz : (u.toList == ([48] : List UInt8)) = true := by rw [toList_L, hz0]; rfl
              have hQ := fun W => r_ReadInt_any (u) W (by omega)
              have HF : Hid (r = ((Idn.read2 (L (u))).1, (Idn.read2 (L (u))).2 == 0)) := by
                show _ = _
                rw [HG.out]
                rw [hz0]; rfl
              generalize Idn.read2 (L (u)) = q at *
              obtain ⟨n, e⟩ := q
              dsimp only at hQ HF
              clear HR HE HG
              go_wp2_with (go_at_call 242; refine (hQ _).mono ?_; rintro e w1 ⟨rfl, rfl⟩)
              go_ret2
              exact ⟨by rw [HF.out] <;> rfl, rfl⟩
            · have hz : (u.toList == ([48] : List UInt8)) = false := by rw [toList_L]; simpa using hz0
              have hL45 : L ((⟨#[45]⟩ : ByteArray) ++ u) = 45 :: L u := by
                have : (⟨#[45]⟩ : ByteArray) ++ u = B (45 :: L u) := by rw [show (45 :: L u) = [45] ++ L u from rfl, ← B_app]; rfl
                rw [this, Idn.L_B]
              have hsz45 : ((⟨#[45]⟩ : ByteArray) ++ u).size = 1 + u.size := by
                rw [size_L, hL45, size_L u]; simp; omega
              have hQ := fun W => r_ReadInt_any ((⟨#[45]⟩ : ByteArray) ++ u) W (by rw [hsz45]; omega)
              have HF : Hid (r = ((Idn.read2 (L ((⟨#[45]⟩ : ByteArray) ++ u))).1, (Idn.read2 (L ((⟨#[45]⟩ : ByteArray) ++ u))).2 == 0)) := by
                show _ = _
                rw [HG.out]
                rw [hL45, Idn.signed, if_pos (by simpa using hz0)]
              generalize Idn.read2 (L ((⟨#[45]⟩ : ByteArray) ++ u)) = q at *
              obtain ⟨n, e⟩ := q
              dsimp only at hQ HF
              clear HR HE HG
              go_wp2_with (go_at_call 242; refine (hQ _).mono ?_; rintro e w1 ⟨rfl, rfl⟩)
              go_ret2
              exact ⟨by rw [HF.out] <;> rfl, rfl⟩
  all_goals
    go_enter Tryz.func217, Tryz.ntmps217
    go_wp2
    try generalize s = t at hs HR ⊢
    go_loop [0] (fun x => ∃ u : ByteArray, x = .string u ∧ u.size ≤ t.size ∧ Hid (Idn.stripZ (L u) = Idn.stripZ (L t))) (fun x => vSize x)
    case atStart => exact ⟨t, rfl, Nat.le_refl _, rfl⟩
    case round =>
      obtain ⟨u, rfl, hut, hinv⟩ := hrel
      by_cases h1 : 1 < u.size
      · try (exfalso; omega)
        all_goals
          have h1I : (1 : Int) < (u.size : Int) := by omega
          have h2 := drop_two u 0 h1
          simp only [List.drop_zero] at h2
          by_cases h48 : u[0] = 48
          · have e48 : ((u[0].toNat : Int) == 48) = true := byte_is (d := 48) h48
            have HI : Hid (Idn.stripZ (L (u.extract 1 u.size)) = Idn.stripZ (L t)) := by
              show _ = _
              rw [← hinv.out, extract_drop, Idn.L_B, h2, Idn.stripZ, if_pos (by simpa using h48)]
              try simp
            clear h2 h48 hinv HR
            go_wp2
            go_round
            case rel => exact ⟨u.extract 1 u.size, rfl, by simp; omega, HI⟩
            case measure => simp [vSize]; omega
          · have e48 : ((u[0].toNat : Int) == 48) = false := byte_not (d := 48) h48
            have HE : Hid (L u = Idn.stripZ (L t)) := by show _ = _; rw [← hinv.out, h2, Idn.stripZ, if_neg (by simpa using h48)]
            clear h2 h48 hinv
            by_cases hu0 : 0 < u.size
            case neg =>
              first
              | (exfalso; omega)
              | (have hemp : (u.toList == ([] : List UInt8)) = true := by rw [toList_L, drop0 u hu0]; rfl
                 have HF : Hid (r = (0, false)) := by show _ = _; rw [HR.out, ← HE.out, drop0 u hu0]; rfl
                 clear HR HE
                 go_wp2
                 go_ret2
                 exact ⟨by rw [HF.out] <;> rfl, rfl⟩)
            case pos =>
            have hne : L u = u[0] :: (L u).drop 1 := by have := drop_L u 0 hu0; simpa using this
            have hemp : (u.toList == ([] : List UInt8)) = false := by rw [toList_L, hne]; rfl
            have hdg : (L u).isEmpty = false := by rw [hne]; rfl
            have hhd : (L u).headD 0 = u[0] := by rw [hne]; rfl
            clear hne
            by_cases d1 : (u[0].toNat : Int) < 48
            · have HF : Hid (r = (0, false)) := by
                show _ = _
                have : Idn.digit u[0] = false := by unfold Idn.digit; rw [Bool.and_eq_false_iff, decide_eq_false_iff_not]; left; omega
                rw [HR.out, ← HE.out, hhd, this]; simp
              clear HR HE
              go_wp2
              go_ret2
              exact ⟨by rw [HF.out] <;> rfl, rfl⟩
            · by_cases d2 : (57 : Int) < (u[0].toNat : Int)
              · have HF : Hid (r = (0, false)) := by
                  show _ = _
                  have : Idn.digit u[0] = false := by unfold Idn.digit; rw [Bool.and_eq_false_iff, decide_eq_false_iff_not, decide_eq_false_iff_not]; right; omega
                  rw [HR.out, ← HE.out, hhd, this]; simp
                clear HR HE
                go_wp2
                go_ret2
                exact ⟨by rw [HF.out] <;> rfl, rfl⟩
              · have HG : Hid (r = ((Idn.read2 (Idn.signed false (L u))).1, (Idn.read2 (Idn.signed false (L u))).2 == 0)) := by
                  show _ = _
                  have : Idn.digit u[0] = true := by rw [Idn.digit_iff]; omega
                  rw [HR.out, ← HE.out, hhd, this, hdg]; simp
                clear hdg hhd
                have hQ := fun W => r_ReadInt_any (u) W (by omega)
                have HF : Hid (r = ((Idn.read2 (L (u))).1, (Idn.read2 (L (u))).2 == 0)) := by
                  show _ = _
                  rw [HG.out]
                  rw [Idn.signed]; rfl
                generalize Idn.read2 (L (u)) = q at *
                obtain ⟨n, e⟩ := q
                dsimp only at hQ HF
                clear HR HE HG
                go_wp2_with (go_at_call 242; refine (hQ _).mono ?_; rintro e w1 ⟨rfl, rfl⟩)
                go_ret2
                exact ⟨by rw [HF.out] <;> rfl, rfl⟩
      · have h1I : ¬ (1 : Int) < (u.size : Int) := by omega
        have HE : Hid (L u = Idn.stripZ (L t)) := by
          show _ = _
          rw [← hinv.out]
          have : (L u).length ≤ 1 := by rw [← size_L]; omega
          cases hx : L u with
          | nil => rfl
          | cons a l =>
            cases l with
            | nil => rfl
            | cons b l => rw [hx] at this; simp at this
        clear hinv
        by_cases hu0 : 0 < u.size
        case neg =>
          first
          | (exfalso; omega)
          | (have hemp : (u.toList == ([] : List UInt8)) = true := by rw [toList_L, drop0 u hu0]; rfl
             have HF : Hid (r = (0, false)) := by show _ = _; rw [HR.out, ← HE.out, drop0 u hu0]; rfl
             clear HR HE
             go_wp2
             go_ret2
             exact ⟨by rw [HF.out] <;> rfl, rfl⟩)
        case pos =>
        have hne : L u = u[0] :: (L u).drop 1 := by have := drop_L u 0 hu0; simpa using this
        have hemp : (u.toList == ([] : List UInt8)) = false := by rw [toList_L, hne]; rfl
        have hdg : (L u).isEmpty = false := by rw [hne]; rfl
        have hhd : (L u).headD 0 = u[0] := by rw [hne]; rfl
        clear hne
        by_cases d1 : (u[0].toNat : Int) < 48
        · have HF : Hid (r = (0, false)) := by
            show _ = _
            have : Idn.digit u[0] = false := by unfold Idn.digit; rw [Bool.and_eq_false_iff, decide_eq_false_iff_not]; left; omega
            rw [HR.out, ← HE.out, hhd, this]; simp
          clear HR HE
          go_wp2
          go_ret2
          exact ⟨by rw [HF.out] <;> rfl, rfl⟩
        · by_cases d2 : (57 : Int) < (u[0].toNat : Int)
          · have HF : Hid (r = (0, false)) := by
              show _ = _
              have : Idn.digit u[0] = false := by unfold Idn.digit; rw [Bool.and_eq_false_iff, decide_eq_false_iff_not, decide_eq_false_iff_not]; right; omega
              rw [HR.out, ← HE.out, hhd, this]; simp
            clear HR HE
            go_wp2
            go_ret2
            exact ⟨by rw [HF.out] <;> rfl, rfl⟩
          · have HG : Hid (r = ((Idn.read2 (Idn.signed false (L u))).1, (Idn.read2 (Idn.signed false (L u))).2 == 0)) := by
              show _ = _
              have : Idn.digit u[0] = true := by rw [Idn.digit_iff]; omega
              rw [HR.out, ← HE.out, hhd, this, hdg]; simp
            clear hdg hhd
            have hQ := fun W => r_ReadInt_any (u) W (by omega)
            have HF : Hid (r = ((Idn.read2 (L (u))).1, (Idn.read2 (L (u))).2 == 0)) := by
              show _ = _
              rw [HG.out]
              rw [Idn.signed]; rfl
            generalize Idn.read2 (L (u)) = q at *
            obtain ⟨n, e⟩ := q
            dsimp only at hQ HF
            clear HR HE HG
            go_wp2_with (go_at_call 242; refine (hQ _).mono ?_; rintro e w1 ⟨rfl, rfl⟩)
            go_ret2
            exact ⟨by rw [HF.out] <;> rfl, rfl⟩
end Go.Proofs.YtoopoglkeeoamaaGreatDoor
/- identityref07: form. -/
namespace Go.Proofs.YtoopoglkeeoamaaGreatDoor
open Go.RowKit Go.Sort
open Idn (L B Bs drop_L take_L size_L)
theorem read2_range (l : Bs) : -9223372036854775808 ≤ (Idn.read2 l).1 ∧ (Idn.read2 l).1 ≤ 9223372036854775807 := by
 unfold Idn.read2
 repeat' split
 all_goals (try dsimp only)
 all_goals omega
theorem number2_range (l : Bs) : -9223372036854775808 ≤ (Idn.number2 l).1 ∧ (Idn.number2 l).1 ≤ 9223372036854775807 := by
 unfold Idn.number2
 split
 ·exact ⟨by decide, by decide⟩
 ·exact read2_range _
theorem r7_form_any (x : Int) (h1 : 1 ≤ x) (h5 : x ≤ 5) (v : ByteArray) (w : World) (hs : v.size ≤ 999999999) :
  Calls Tryz.prog 171 #[.int .i64 x, .string v] w fun e w' => e = .returned (.tuple #[.string (B (form2 x (L v)).1), .bool (form2 x (L v)).2]) ∧ Below w.heap.size w w' := by
 have hFo := fun W => r_fold_any v W (by omega)
 have hNu := fun W => r7_number_any v W hs
 have hCl := fun W => r5_Clean_any v W (by omega)
 have hLo := fun W => r_lower_any v W (by omega)
 obtain ⟨n1, n2⟩ := number2_range (L v)
 generalize hr : form2 x (L v) = r
 have HR : Hid (r = form2 x (L v)) := hr.symm
 clear hr
 unfold form2 at HR
 have hx : x = 1 ∨ x = 2 ∨ x = 3 ∨ x = 4 ∨ x = 5 := by omega
 clear h1 h5
 rcases hx with rfl | rfl | rfl | rfl | rfl
 ·have HF : Hid (r = (Idn.fold (L v), true)) := HR.out
  clear HR hNu hCl hLo
  go_enter Tryz.func171, Tryz.ntmps171
  go_wp2_with fail
  refine (hFo _).mono ?_
  rintro e w1 ⟨rfl, hb1⟩
  go_wp2
  go_ret2
  exact ⟨by rw [HF.out] <;> rfl, hb1⟩
 ·have HF : Hid (r = (L v, true)) := HR.out
  clear HR hNu hCl hLo hFo
  go_enter Tryz.func171, Tryz.ntmps171
  go_wp2
  go_ret2
  exact ⟨by rw [HF.out] <;> rfl, Below.refl _ _⟩
 ·have HF : Hid (r = (Lib.itoa (Idn.number2 (L v)).1, (Idn.number2 (L v)).2)) := HR.out
  have hI := fun W => r_Int_any (Idn.number2 (L v)).1 n1 n2 W
  generalize Idn.number2 (L v) = q at *
  obtain ⟨n, ok⟩ := q
  dsimp only at *
  clear HR hCl hLo hFo
  go_enter Tryz.func171, Tryz.ntmps171
  go_wp2_with fail
  refine (hNu _).mono ?_
  rintro e w1 ⟨rfl, rfl⟩
  go_wp2_with fail
  refine (hI _).mono ?_
  rintro e w1 ⟨rfl, hb1⟩
  go_wp2
  go_ret2
  exact ⟨by rw [HF.out] <;> rfl, hb1⟩
 ·have HF : Hid (r = ((Idn.cleanN (L v)).1, (Idn.cleanN (L v)).2 == 0)) := HR.out
  generalize Idn.cleanN (L v) = q at *
  obtain ⟨t, x⟩ := q
  dsimp only at *
  clear HR hNu hLo hFo
  go_enter Tryz.func171, Tryz.ntmps171
  go_wp2_with fail
  refine (hCl _).mono ?_
  rintro e w1 ⟨rfl, hb1⟩
  go_wp2
  go_ret2
  exact ⟨by rw [HF.out] <;> rfl, hb1⟩
 ·have HF : Hid (r = if Idn.lower (L v) = tTrue then ([84, 82, 85, 69], true) else ([70, 65, 76, 83, 69], Idn.lower (L v) == tFalse)) := HR.out
  have hway : (((B (Idn.lower (L v))).toList == ([116, 114, 117, 101] : List UInt8)) = true ∧ Hid (r = ([84, 82, 85, 69], true))) ∨ (((B (Idn.lower (L v))).toList == ([116, 114, 117, 101] : List UInt8)) = false ∧ ∃ b : Bool, ((B (Idn.lower (L v))).toList == ([102, 97, 108, 115, 101] : List UInt8)) = b ∧ Hid (r = ([70, 65, 76, 83, 69], b))) := by
   by_cases h : Idn.lower (L v) = tTrue
   ·exact .inl ⟨by rw [toList_L, Idn.L_B, h]; rfl, by show _ = _; rw [HF.out, if_pos h]⟩
   ·exact .inr ⟨by rw [toList_L, Idn.L_B, beq_eq_false_iff_ne]; exact h, Idn.lower (L v) == tFalse, by rw [toList_L, Idn.L_B]; rfl, by show _ = _; rw [HF.out, if_neg h]⟩
  clear HF HR hNu hCl hFo
  generalize B (Idn.lower (L v)) = t at *
  rcases hway with ⟨z1, HG⟩ | ⟨z1, b, z2, HG⟩
  ·go_enter Tryz.func171, Tryz.ntmps171
   go_wp2_with fail
   refine (hLo _).mono ?_
   rintro e w1 ⟨rfl, hb1⟩
   go_wp2
   go_ret2
   exact ⟨by rw [HG.out] <;> rfl, hb1⟩
  ·go_enter Tryz.func171, Tryz.ntmps171
   go_wp2_with fail
   refine (hLo _).mono ?_
   rintro e w1 ⟨rfl, hb1⟩
   go_wp2_with fail
   refine (hLo _).mono ?_
   rintro e w2 ⟨rfl, hb2⟩
   go_wp2
   go_ret2
   exact ⟨by rw [HG.out] <;> rfl, hb1.trans (hb2.mono hb1.size)⟩
end Go.Proofs.YtoopoglkeeoamaaGreatDoor
/- identityref07: Normal, Compare. -/
namespace Go.Proofs.YtoopoglkeeoamaaGreatDoor
open Go.RowKit Go.Sort
open Idn (L B Bs drop_L take_L size_L)
theorem r_Normal_any (u : Value) (s : Idn.Sch) (n v : ByteArray) (w : World) (hu : SchV w w.heap.size u s) (hs : SSm s) (hn : n.size ≤ 1000000000) (hv : v.size ≤ 100000000) :
  Calls Tryz.prog 103 #[u, .string n, .string v] w fun e w' => e = .returned (.tuple #[.string (B (sNorm s (L n) (L v)).1), .int .i64 (sNorm s (L n) (L v)).2]) ∧ Below w.heap.size w w' := by
 have hT := fun W (hW : Below w.heap.size w W) => r_type_any u s n W (SchV.mono (SchV.keep hu hW) hW.size) hs hn
 have hC1 := fun W => r_clean_any v W (by omega)
 obtain ⟨a, b, rfl, hT0, hC0⟩ := hu
 obtain ⟨A, ca, rfl, hca⟩ := SlV.shape hT0
 obtain ⟨A', cb, rfl, hcb⟩ := SlV.shape hC0
 clear hT0 hC0
 have hsy := fun h => syn_range (s := s) (n := L n) h
 rw [← rNorm_eq]
 generalize hr : rNorm s (L n) (L v) = r
 have HR : Hid (r = rNorm s (L n) (L v)) := hr.symm
 clear hr
 unfold rNorm at HR
 generalize tyLook (sound s) (L n) = tl at *
 obtain ⟨⟨tn, ty, ts⟩, ok⟩ := tl
 unfold tyV at hT
 dsimp only [sv] at *
 cases ok
 ·have HF : Hid (r = ([], 6)) := by show _ = _; rw [HR.out, if_pos rfl]
  clear HR hsy hC1
  go_enter Tryz.func103, Tryz.ntmps103
  go_wp2_with fail
  with_reducible refine gen1 (R := fun W => Calls Tryz.prog 105 _ W _) ?_
  intro W hbW hszW _ _
  refine (hT W hbW).mono ?_
  rintro e w1 ⟨rfl, hb1⟩
  have hbw1 := hbW.trans (hb1.mono hbW.size)
  clear hT
  go_wp2
  go_ret2
  exact ⟨by rw [HF.out] <;> rfl, hbw1.alloc hbw1.size _⟩
 ·obtain ⟨y1, y5⟩ := hsy rfl
  have hFm := fun W => r7_form_any ty y1 y5 v W (by omega)
  have hF2 := form2_eq y1 y5 (L v)
  have hlen := length_norm ty (L v) (by rw [← size_L]; omega)
  have hfl : (form2 ty (L v)).2 = true → (form2 ty (L v)).1.length ≤ 1000000000 := fun h => by rw [hF2.2 (by rw [← hF2.1]; exact h)]; exact hlen
  clear hF2 hlen hsy
  generalize form2 ty (L v) = f at *
  obtain ⟨f1, f2⟩ := f
  dsimp only at *
  cases hcl : Idn.clean (L v)
  ·rw [hcl] at hC1 HR
   have HF : Hid (r = ([], 8)) := by show _ = _; rw [HR.out, if_neg (by decide), if_pos rfl]
   clear HR hfl hFm hcl
   go_enter Tryz.func103, Tryz.ntmps103
   go_wp2_with fail
   with_reducible refine gen1 (R := fun W => Calls Tryz.prog 105 _ W _) ?_
   intro W hbW hszW _ _
   refine (hT W hbW).mono ?_
   rintro e w1 ⟨rfl, hb1⟩
   have hbw1 := hbW.trans (hb1.mono hbW.size)
   clear hT hszW
   go_upto_region 2 with fail
   with_reducible refine gen1 (R := fun W => Code.wp Tryz.prog _ _ _ W) ?_
   intro W4 hbW4 hszW4 hc4 _
   have p1 : W4.cell? ⟨w1.heap.size, 1, none⟩ = some (.int .i64 ty) := hc4 1 _ rfl
   have hbw4 := hbw1.trans (hbW4.mono hbw1.size)
   clear hc4 hszW4
   go_wp2_with fail
   refine (hC1 W4).mono ?_
   rintro e w5 ⟨rfl, rfl⟩
   clear hC1
   go_wp2
   go_ret2
   exact ⟨by rw [HF.out] <;> rfl, hbw4⟩
  ·rw [hcl] at hC1 HR
   clear hcl
   cases f2
   ·have HF : Hid (r = ([], 8)) := by show _ = _; rw [HR.out, if_neg (by decide), if_neg (by decide), if_pos (by simp)]
    clear HR hfl
    go_enter Tryz.func103, Tryz.ntmps103
    go_wp2_with fail
    with_reducible refine gen1 (R := fun W => Calls Tryz.prog 105 _ W _) ?_
    intro W hbW hszW _ _
    refine (hT W hbW).mono ?_
    rintro e w1 ⟨rfl, hb1⟩
    have hbw1 := hbW.trans (hb1.mono hbW.size)
    clear hT hszW
    go_upto_region 2 with fail
    with_reducible refine gen1 (R := fun W => Code.wp Tryz.prog _ _ _ W) ?_
    intro W4 hbW4 hszW4 hc4 _
    have p1 : W4.cell? ⟨w1.heap.size, 1, none⟩ = some (.int .i64 ty) := hc4 1 _ rfl
    have hbw4 := hbw1.trans (hbW4.mono hbw1.size)
    clear hc4 hszW4
    go_wp2_with fail
    refine (hC1 W4).mono ?_
    rintro e w5 ⟨rfl, rfl⟩
    clear hC1
    go_wp2_with fail
    refine (hFm W4).mono ?_
    rintro e w6 ⟨rfl, hb6⟩
    have hbw6 := hbw4.trans (hb6.mono hbw4.size)
    clear hFm
    go_wp2
    go_ret2
    exact ⟨by rw [HF.out] <;> rfl, hbw6⟩
   ·have hC2 := fun W => r_clean_any (B f1) W (by have := hfl rfl; rw [Idn.size_B]; omega)
    rw [Idn.L_B] at hC2
    have HF : Hid (r = if Idn.clean f1 = false then ([], 8) else (f1, 0)) := by
     show _ = _
     rw [HR.out, if_neg (by decide), if_neg (by decide)]
     cases Idn.clean f1 <;> rfl
    clear HR hfl
    cases hcf : Idn.clean f1
    all_goals
     rw [hcf] at hC2 HF
     clear hcf
     go_enter Tryz.func103, Tryz.ntmps103
     go_wp2_with fail
     with_reducible refine gen1 (R := fun W => Calls Tryz.prog 105 _ W _) ?_
     intro W hbW hszW _ _
     refine (hT W hbW).mono ?_
     rintro e w1 ⟨rfl, hb1⟩
     have hbw1 := hbW.trans (hb1.mono hbW.size)
     clear hT hszW
     go_upto_region 2 with fail
     with_reducible refine gen1 (R := fun W => Code.wp Tryz.prog _ _ _ W) ?_
     intro W4 hbW4 hszW4 hc4 _
     have p1 : W4.cell? ⟨w1.heap.size, 1, none⟩ = some (.int .i64 ty) := hc4 1 _ rfl
     have hbw4 := hbw1.trans (hbW4.mono hbw1.size)
     clear hc4 hszW4
     go_wp2_with fail
     refine (hC1 W4).mono ?_
     rintro e w5 ⟨rfl, rfl⟩
     clear hC1
     go_wp2_with fail
     refine (hFm W4).mono ?_
     rintro e w6 ⟨rfl, hb6⟩
     have hbw6 := hbw4.trans (hb6.mono hbw4.size)
     clear hFm
     go_wp2_with fail
     refine (hC2 _).mono ?_
     rintro e w7 ⟨rfl, rfl⟩
     go_wp2
     go_ret2
     exact ⟨by rw [HF.out] <;> rfl, hbw6⟩
end Go.Proofs.YtoopoglkeeoamaaGreatDoor
/- identityref07: Valid. -/
namespace Go.Proofs.YtoopoglkeeoamaaGreatDoor
open Go.RowKit Go.Sort
open Idn (L B Bs drop_L take_L size_L)
theorem genR1 {R : World → Prop} {w : World} {x : ByteArray} {t1 : TypeId}
  (h : ∀ W, Below w.heap.size w W → W.heap.size = w.heap.size + 1 → W.ownsRow w.heap.size t1 1 (.slice (some ⟨w.heap.size, 0, none⟩) 1 1) 1 [.string x] → R W) : R (w.alloc (.cells #[.string x] t1)) :=
 h _ ((Below.refl _ _).alloc (Nat.le_refl _) _) (by simp) (World.ownsRow_lit (base := w.heap.size) (e := t1) (size := 1) w #[.string x] 1 (Nat.le_refl _) (by decide) rfl)
theorem r_Valid_any (u : Value) (s : Idn.Sch) (nm : ByteArray) (va : Value) (l : List Idn.Att) (w : World) (hu : SchV w w.heap.size u s) (hs : SSm s) (hv : AttsV w w.heap.size va l) (hsm : ASm l) (hs5 : ASm5 l) (hs7 : Idn.ASm7 l) :
  Calls Tryz.prog 58 #[u, .agg #[.string nm, va]] w fun e w' => e = .returned (.int .i64 (sValid s l)) ∧ Below w.heap.size w w' := by
 have hV := fun W (hW : Below w.heap.size w W) => SchV.mono (SchV.keep hu hW) hW.size
 have hA := fun W (hW : Below w.heap.size w W) => AttsV.mono (AttsV.keep hv hW) hW.size
 have hTy := fun W (hW : Below w.heap.size w W) n hn => r_type_any u s n W (hV W hW) hs hn
 have hNo := fun W (hW : Below w.heap.size w W) n v hn hv => r_Normal_any u s n v W (hV W hW) hs hn hv
 have hLi := fun W (hW : Below w.heap.size w W) n hn => r_lineage_any u s n W (hV W hW) hs hn
 have hMu := fun W (hW : Below w.heap.size w W) n hn => r_Must_any u s n W (hV W hW) hs hn
 have hMa := fun W (hW : Below w.heap.size w W) n hn => r_May_any u s n W (hV W hW) hs hn
 have hCk := fun W (hW : Below w.heap.size w W) => r6_Check_any va l W (hA W hW) hsm
 have hGe := fun W (hW : Below w.heap.size w W) => r6_Get_any va l (B Idn.mainN) W (hA W hW) hs7 (by decide)
 have hNm := fun W (hW : Below w.heap.size w W) => r6_Names_any va l W (hA W hW) hs7
 rw [Idn.L_B] at hGe
 have hnl := namesL_len hs7
 have hbd := bd_sound s
 obtain ⟨a, b, rfl, hT, hC⟩ := hu
 obtain ⟨A, ca, rfl, hca⟩ := SlV.shape hT
 obtain ⟨A', cb, rfl, hcb⟩ := SlV.shape hC
 obtain ⟨A0, c0, rfl, hc0⟩ := SlV.shape hv
 clear hT hC hV hA hsm
 have HR : Hid (sValid s l = if Idn.aCheck l != 0 then Idn.aCheck l else if vGo (sound s) l != 0 then vGo (sound s) l else if !classedB (sound s) (namesL l) (getL l Idn.mainN) then 9 else 0) := rfl
 generalize sValid s l = r at *
 have hz := fun h => aCheck_zero (l := l) h
 generalize Idn.aCheck l = ck at *
 go_enter Tryz.func58, Tryz.ntmps58
 go_wp2_with fail
 with_reducible refine gen2 (R := fun W => Calls Tryz.prog 43 _ W _) ?_
 intro W hbW hszW hc1 hc2
 have q0 : W.cell? ⟨w.heap.size, 0, none⟩ = some (.slice A s.types.length ca) := hc1 0 _ rfl
 have q1 : W.cell? ⟨w.heap.size, 1, none⟩ = some (.slice A' s.classes.length cb) := hc1 1 _ rfl
 have e1 : W.cell? ⟨w.heap.size + 1, 1, none⟩ = some (.slice A0 l.length c0) := hc2 1 _ rfl
 clear hc1 hc2 hszW
 refine (hCk W hbW).mono ?_
 rintro e w1 ⟨rfl, hb1⟩
 have hbw1 := hbW.trans (hb1.mono hbW.size)
 replace q0 := cell_later hb1 q0
 replace q1 := cell_later hb1 q1
 replace e1 := cell_later hb1 e1
 clear hCk hbW hb1
 by_cases hck : ck = 0
 case neg =>
  have ck1 : (ck != 0) = true := by simpa using hck
  have HF : Hid (r = ck) := by show _ = _; rw [HR.out, if_pos ck1]
  clear HR hz hck
  go_wp2
  go_ret
  exact ⟨ret_int (by rw [HF.out]), hbw1⟩
 replace HR : Hid (r = if vGo (sound s) l != 0 then vGo (sound s) l else if !classedB (sound s) (namesL l) (getL l Idn.mainN) then 9 else 0) := by show _ = _; rw [HR.out, hck]; rfl
 obtain ⟨hl32, hv16⟩ := hz hck
 have hne : ∀ a ∈ l, a.vals.length ≠ 0 := fun a ha => (hv16 a ha).1
 have hgl : (getL l Idn.mainN).length ≤ 100000 := get_len (fun a ha => (hv16 a ha).2) (by omega) Idn.mainN
 have hgx := get_all (fun a ha x hx => (hs5 a ha).2 x hx) Idn.mainN
 rw [rGet_eq hne] at hGe
 rw [rNames_l hne] at hNm
 subst hck
 clear hz hne
 go_wp2_with fail
 go_loopw [6] (fun i wr => ∃ k : Nat, k ≤ l.length ∧ i = .int .i64 k ∧ Below w1.heap.size w1 wr ∧ Hid (vGo (sound s) l = vGo (sound s) (l.drop k))) (fun i _ => l.length - (intOf i).toNat)
 case atStart => exact ⟨0, Nat.zero_le _, rfl, Below.refl _ _, by show _ = _; simp⟩
 case round =>
  obtain ⟨k, hkl, rfl, hbr, hinv⟩ := hrel
  have hbwr := hbw1.trans (hbr.mono hbw1.size)
  replace q0 := cell_later hbr q0
  replace q1 := cell_later hbr q1
  replace e1 := cell_later hbr e1
  obtain ⟨wo, hwo⟩ : ∃ wo : World, wo = wr := ⟨_, rfl⟩
  subst hwo
  by_cases hlt : k < l.length
  ·clear hGe hNm hLi hMu hMa hgl hgx hnl
   obtain ⟨b, off, vk, rfl, hbl, d0, d1, hvk⟩ := AttsV.cell (AttsV.keep hv hbwr) hlt
   obtain ⟨Ak, ck2, rfl, hck2⟩ := SlV.shape hvk
   have hltI : (k : Int) < (l.length : Int) := by omega
   have h5 := hs5 l[k] (List.getElem_mem hlt)
   have hvl : l[k].vals.length ≤ 16 := (hv16 l[k] (List.getElem_mem hlt)).2
   obtain ⟨g1, g2⟩ := vGo_step (sound s) l k hlt _ hinv.out
   have hsz3 : (B l[k].name).size ≤ 1000000000 := by rw [Idn.size_B]; omega
   have hTn := fun W (hW : Below w.heap.size w W) => hTy W hW (B l[k].name) hsz3
   have hNn := fun W (hW : Below w.heap.size w W) v hv => hNo W hW (B l[k].name) v hsz3 hv
   rw [Idn.L_B] at hTn hNn
   have hA6 := attrE_none (s := sound s) (n := l[k].name) (vs := l[k].vals)
   have hA8 := attrE_bad (s := sound s) (n := l[k].name) (vs := l[k].vals)
   have hA9 := attrE_ok (s := sound s) (n := l[k].name) (vs := l[k].vals)
   have hSe := sNorm_err (s := s) (n := l[k].name)
   have hNf : ∀ e : Int, e ≠ 0 → attrE (sound s) l[k].name l[k].vals = e → Hid (r = e) := fun e he h => by
    show _ = _
    rw [HR.out, g1 (by rw [h]; exact he), h, if_pos (by simpa using he)]
   have hNx : attrE (sound s) l[k].name l[k].vals = 0 → Hid (vGo (sound s) l = vGo (sound s) (l.drop (k + 1))) := fun h => g2 h
   generalize attrE (sound s) l[k].name l[k].vals = ae at *
   generalize l[k].vals = vals at *
   generalize l[k].name = anm at *
   clear g1 g2 hinv hTy hNo HR hs5 hs7 hv16 hbd hc0 hca hcb
   go_upto_region 8 with fail
   with_reducible refine gen1 (R := fun W => Code.wp Tryz.prog _ _ _ W) ?_
   intro W3 hbW3 hszW3 hc3 _
   have a0 : W3.cell? ⟨wo.heap.size, 0, none⟩ = some (.string (B anm)) := hc3 0 _ rfl
   have a1 : W3.cell? ⟨wo.heap.size, 1, none⟩ = some (.slice Ak vals.length ck2) := hc3 1 _ rfl
   replace q0 := cell_later hbW3 q0
   replace q1 := cell_later hbW3 q1
   have hb3 := hbwr.trans (hbW3.mono hbwr.size)
   have hr3 := hbr.trans (hbW3.mono hbr.size)
   clear hc3 hszW3 d0 d1
   go_wp2_with fail
   refine (hTn W3 hb3).mono ?_
   rintro e w4 ⟨rfl, hb4⟩
   replace a0 := cell_later hb4 a0
   replace a1 := cell_later hb4 a1
   replace q0 := cell_later hb4 q0
   replace q1 := cell_later hb4 q1
   have hbw4 := hb3.trans (hb4.mono hb3.size)
   have hr4 := hr3.trans (hb4.mono hr3.size)
   have ho4 := hbW3.trans (hb4.mono hbW3.size)
   clear hTn hb3 hb4 hr3 hbW3
   generalize tyLook (sound s) anm = tl at *
   obtain ⟨⟨tn, ty, ts⟩, ok⟩ := tl
   unfold tyV
   dsimp only [sv] at *
   cases ok
   ·have HF : Hid (r = 6) := hNf 6 (by decide) (hA6 rfl)
    clear hA6 hA8 hA9 hNf hNx hSe
    go_wp2
    go_ret
    exact ⟨ret_int (by rw [HF.out]), hbw4.alloc hbw4.size _⟩
   replace hSe := hSe rfl
   replace hA8 := hA8 rfl
   replace hA9 := hA9 rfl
   clear hA6
   go_upto_region 9 with fail
   with_reducible refine gen1 (R := fun W => Code.wp Tryz.prog _ _ _ W) ?_
   intro W5 hbW5 hszW5 hc5 _
   have p2 : W5.cell? ⟨w4.heap.size, 2, none⟩ = some (.bool ts) := hc5 2 _ rfl
   replace a0 := cell_later hbW5 a0
   replace a1 := cell_later hbW5 a1
   replace q0 := cell_later hbW5 q0
   replace q1 := cell_later hbW5 q1
   have hbw5 := hbw4.trans (hbW5.mono hbw4.size)
   have hr5 := hr4.trans (hbW5.mono hr4.size)
   have hvr : StrsV W5 w.heap.size (.slice Ak vals.length ck2) vals := SlV.keep hvk ((ho4.trans (hbW5.mono ho4.size)).mono hbwr.size)
   clear hc5 hszW5 hbW5 hr4 hbw4 ho4 hvk hbwr hbr e1
   go_upto_block 2 with fail
   go_cut [] (fun wx => Below W5.heap.size W5 wx ∧ Hid (badV ty vals = false))
   case first =>
    go_wp2_with fail
    go_loopw [10] (fun i wr => ∃ j : Nat, j ≤ vals.length ∧ i = .int .i64 j ∧ Below W5.heap.size W5 wr ∧ Hid (badV ty vals = badV ty (vals.drop j))) (fun i _ => vals.length - (intOf i).toNat)
    case atStart => exact ⟨0, Nat.zero_le _, rfl, Below.refl _ _, by show _ = _; simp⟩
    case round =>
     obtain ⟨j, hj, rfl, hbj, hinv⟩ := hrel
     have hbwj := hbw5.trans (hbj.mono hbw5.size)
     obtain ⟨wp, hwp⟩ : ∃ wp : World, wp = wr := ⟨_, rfl⟩
     subst hwp
     by_cases hjl : j < vals.length
     ·obtain ⟨b6, off6, hAk, hbl6, d0⟩ := StrsV.cell (SlV.keep hvr (hbj.mono hbw5.size)) hjl
      subst hAk
      have hjI : (j : Int) < (vals.length : Int) := by omega
      have hj0 : (0 : Int) ≤ (j : Int) := by omega
      have hjs : vals[j].length ≤ 100000000 := h5.2 vals[j] (List.getElem_mem hjl)
      obtain ⟨t1, t2⟩ := badV_step hjl hinv.out
      have hsz0 : (B vals[j]).size ≤ 100000000 := by rw [Idn.size_B]; exact hjs
      have hNj := fun W' (hW' : Below wp.heap.size wp W') => hNn W' (hbwj.trans (hW'.mono hbwj.size)) (B vals[j]) hsz0
      rw [Idn.L_B] at hNj
      have c1 := cq (W := wp) hNj
      clear hNj hsz0
      have hse := hSe vals[j]
      have k0 := cell_regrown d0
      have k1 := cell_regrown (cell_later hbj q0)
      have k2 := cell_regrown (cell_later hbj q1)
      have k3 := cell_regrown (cell_later hbj a0)
      replace a1 := cell_later hbj a1
      have k4 := cell_regrown a1
      generalize sNorm s anm vals[j] = sn at *
      obtain ⟨sa, se⟩ := sn
      dsimp only at hse c1
      clear hinv hNx hA9 hSe hNn q0 q1 a0 p2 d0 hvr
      cases hnv : (Idn.normV ty vals[j]).2
      ·rw [hnv] at hse
       replace hse : se = 8 := hse
       subst hse
       have HF : Hid (r = 8) := hNf 8 (by decide) (hA8 (t1 hnv))
       clear t1 t2 hnv hA8 hNf
       go_wp2
       refine wp_region_quiet_below (by kernel_rfl) (by kernel_rfl) ?_
       repeat (first | go_big_quiet_step ((go_at_call 103; exact c1 _ _)) | quiet_step ((go_at_call 103; exact c1 _ _)))
       refine wpQuiet_nil ?_
       intro _ hw'
       obtain ⟨⟨dq, osq⟩, hw''⟩ := hw'
       subst hw''
       have hb6 := below_regrown wp dq osq
       generalize grow (redrawn wp dq) osq = W6 at hb6 ⊢
       go_wp2
       go_ret
       exact ⟨ret_int (by rw [HF.out]), hbwj.trans (hb6.mono hbwj.size)⟩
      ·rw [hnv] at hse
       replace hse : se = 0 := hse
       subst hse
       have HF : Hid (badV ty vals = badV ty (vals.drop (j + 1))) := t2 hnv
       clear t1 t2 hnv hA8 hNf
       go_wp2
       refine wp_region_quiet_below (by kernel_rfl) (by kernel_rfl) ?_
       repeat (first | go_big_quiet_step ((go_at_call 103; exact c1 _ _)) | quiet_step ((go_at_call 103; exact c1 _ _)))
       refine wpQuiet_nil ?_
       intro _ hw'
       obtain ⟨⟨dq, osq⟩, hw''⟩ := hw'
       subst hw''
       have hb6 := below_regrown wp dq osq
       generalize grow (redrawn wp dq) osq = W6 at hb6 ⊢
       go_wp2
       go_roundw
       case rel => exact ⟨j + 1, by omega, by go_num, hbj.trans (hb6.mono hbj.size), HF⟩
       case measure => simp [intOf]; omega
     ·have hjI : ¬ (j : Int) < (vals.length : Int) := by omega
      have HF : Hid (badV ty vals = false) := by show _ = _; rw [hinv.out, List.drop_eq_nil_of_le (by omega)]; rfl
      replace a1 := cell_later hbj a1
      clear hinv hA8 hA9 hNf hNx hSe hNn
      go_wp2_with fail
      go_meet
      exact ⟨hbj, HF⟩
   case rest =>
    obtain ⟨hbc, hbad⟩ := hcut
    have hA := hA9 hbad.out
    replace a1 := cell_later hbc a1
    replace p2 := cell_later hbc p2
    have hbwc := hbw5.trans (hbc.mono hbw5.size)
    have hrc := hr5.trans (hbc.mono hr5.size)
    clear hA8 hA9 hSe hNn hbad hvr q0 q1 a0
    cases ts
    ·have HN := hNx (by rw [hA]; rfl)
     clear hNf hNx hA
     go_wp2
     go_roundw
     case rel => exact ⟨k + 1, by omega, by go_num, hrc, HN⟩
     case measure => simp [intOf]; omega
    ·by_cases hm : 1 < vals.length
     ·have hmI : (1 : Int) < (vals.length : Int) := by omega
      have HF : Hid (r = 9) := hNf 9 (by decide) (by rw [hA, decide_eq_true hm]; rfl)
      clear hNf hNx hA hm
      go_wp2
      go_ret
      exact ⟨ret_int (by rw [HF.out]), hbwc⟩
     ·have hmI : ¬ (1 : Int) < (vals.length : Int) := by omega
      have HN := hNx (by rw [hA, decide_eq_false hm]; rfl)
      clear hNf hNx hA hm
      go_wp2
      go_roundw
      case rel => exact ⟨k + 1, by omega, by go_num, hrc, HN⟩
      case measure => simp [intOf]; omega
  ·have hltI : ¬ (k : Int) < (l.length : Int) := by omega
   have hv0 : vGo (sound s) l = 0 := by rw [hinv.out, List.drop_eq_nil_of_le (by omega)]; rfl
   have HR2 : Hid (r = if !classedB (sound s) (namesL l) (getL l Idn.mainN) then 9 else 0) := by show _ = _; rw [HR.out, hv0]; rfl
   have hml := fun n => mustL_len hbd n
   have hal2 := fun n => mayL_len hbd n
   clear HR hinv hv0 hv16 hTy hNo hs5 hs7
   generalize getL l Idn.mainN = cv at *
   generalize namesL l = nms at *
   go_wp2_with fail
   refine (hGe wo hbwr).mono ?_
   rintro e w5 ⟨A5, k5, c5, rfl, hval, hb5⟩
   obtain ⟨A6, c6, ev, hcc⟩ := hval.shape
   injection ev with ev1 ev2 ev3
   subst ev2
   have hbw5 := hbwr.trans (hb5.mono hbwr.size)
   replace q0 := cell_later hb5 q0
   replace q1 := cell_later hb5 q1
   replace e1 := cell_later hb5 e1
   clear hGe ev1 ev3 hcc
   go_wp2_with fail
   refine (hNm w5 hbw5).mono ?_
   rintro e w6 ⟨v6, rfl, hown6, hb6⟩
   have hN6 : StrsV w6 w6.heap.size v6 nms := StrsV.of_own hown6
   obtain ⟨An, cn, hvn, hcn⟩ := hN6.shape
   subst hvn
   have hval6 : StrsV w6 w6.heap.size (.slice A5 cv.length c5) cv := SlV.mono (SlV.keep hval hb6) hb6.size
   have hbw6 := hbw5.trans (hb6.mono hbw5.size)
   replace q0 := cell_later hb6 q0
   replace q1 := cell_later hb6 q1
   clear hNm hown6 hb6 hbw5 hval hb5 hbwr hbr hbw1 e1
   go_upto_region 22 with fail
   with_reducible refine genR1 (R := fun W => Code.wp Tryz.prog _ _ _ W) ?_
   intro X hbX hszX hownX
   replace hownX : X.ownsRow w6.heap.size 9 1 (.slice (some ⟨w6.heap.size, 0, none⟩) 1 1) [Idn.mainN].length ([Idn.mainN].map sv) := hownX
   go_wp2_with fail
   go_loopw [15, 16] (fun u i wr => ∃ (k : Nat) (al : List Bs), k ≤ cv.length ∧ i = .int .i64 k ∧ wr.ownsRow w6.heap.size 9 1 u al.length (al.map sv) ∧ Below w6.heap.size w6 wr ∧ Hid (clsGo (sound s) nms [Idn.mainN] cv = clsGo (sound s) nms al (cv.drop k)) ∧ al.length ≤ 1 + k * 4096) (fun _ i _ => cv.length - (intOf i).toNat)
   case atStart => exact ⟨0, [Idn.mainN], Nat.zero_le _, rfl, hownX, hbX, rfl, Nat.le_refl _⟩
   case round =>
    obtain ⟨k2, al, hk2, rfl, hown, hb, hinv2, hall⟩ := hrel
    have hbwr := hbw6.trans (hb.mono hbw6.size)
    replace q0 := cell_later hb q0
    replace q1 := cell_later hb q1
    obtain ⟨wp, hwp⟩ : ∃ wp : World, wp = wr := ⟨_, rfl⟩
    subst hwp
    by_cases hlt2 : k2 < cv.length
    ·obtain ⟨b, off, hA5, hbl, d0⟩ := StrsV.cell (SlV.keep hval6 hb) hlt2
     subst hA5
     have hlt2I : (k2 : Int) < (cv.length : Int) := by omega
     have hsz := hgx cv[k2] (List.getElem_mem hlt2)
     have hsz1 : (B cv[k2]).size ≤ 1000000000000 := by rw [Idn.size_B]; omega
     have hF := r_fold_any (B cv[k2]) wp hsz1
     rw [Idn.L_B] at hF
     obtain ⟨s1, s2, s3⟩ := clsGo_step (sound s) nms al cv k2 hlt2 _ hinv2.out
     have hlk := lin_key (sound s) cv[k2]
     have hfl := Idn.length_fold cv[k2]
     have hsz2 : (B (Idn.fold cv[k2])).size ≤ 1000000000 := by rw [Idn.size_B]; omega
     have hLi1 := fun W (hW : Below w.heap.size w W) => hLi W hW (B (Idn.fold cv[k2])) hsz2
     have hMu1 := fun W (hW : Below w.heap.size w W) => hMu W hW (B (Idn.fold cv[k2])) hsz2
     have hMa1 := fun W (hW : Below w.heap.size w W) => hMa W hW (B (Idn.fold cv[k2])) hsz2
     rw [Idn.L_B] at hLi1 hMu1 hMa1
     replace hml := hml (Idn.fold cv[k2])
     replace hal2 := hal2 (Idn.fold cv[k2])
     generalize Idn.fold cv[k2] = kk at *
     generalize mustL (sound s) kk = mu at *
     generalize mayL (sound s) kk = ma at *
     generalize Idn.lin (sound s) kk = ln at *
     clear hinv2 hLi hMu hMa
     go_wp2_with fail
     refine hF.mono ?_
     rintro e w7 ⟨rfl, hb7⟩
     have hbw7 := hbwr.trans (hb7.mono hbwr.size)
     replace q0 := cell_later hb7 q0
     replace q1 := cell_later hb7 q1
     clear hF
     go_wp2_with fail
     refine (hLi1 w7 hbw7).mono ?_
     rintro e w8 ⟨v8, rfl, hown8, hb8⟩
     obtain ⟨A8, c8, hv8⟩ := own_shape hown8
     subst hv8
     have hbw8 := hbw7.trans (hb8.mono hbw7.size)
     have hb08 := hb7.trans (hb8.mono hb7.size)
     replace q0 := cell_later hb8 q0
     replace q1 := cell_later hb8 q1
     clear hLi1 hown8 hb8 hbw7 hb7
     cases hkey : clKey (sound s) kk
     ·have hl0 : ((ln.length : Int) == 0) = true := by rw [hlk.2 hkey]; rfl
      have HF : Hid (r = 9) := by show _ = _; rw [HR2.out, classedB, s1 hkey]; rfl
      clear s1 s2 s3 hlk hkey hMu1 hMa1 hown
      go_wp2
      go_ret
      exact ⟨ret_int (by rw [HF.out]), hbw8⟩
     have hl0 : ((ln.length : Int) == 0) = false := by
      rw [beq_eq_false_iff_ne]
      intro h
      have := hlk.1 (by omega)
      rw [hkey] at this; cases this
     replace s2 := s2 hkey
     replace s3 := s3 hkey
     clear s1 hkey hlk
     go_wp2_with fail
     refine (hMu1 w8 hbw8).mono ?_
     rintro e w9 ⟨v9, rfl, hown9, hb9⟩
     have hM9 : StrsV w9 w9.heap.size v9 mu := StrsV.of_own hown9
     obtain ⟨A9, c9, hv9, hc9⟩ := hM9.shape
     subst hv9
     have hbw9 := hbw8.trans (hb9.mono hbw8.size)
     have hb09 := hb08.trans (hb9.mono hb08.size)
     have hb69 := hb.trans (hb09.mono hb.size)
     replace q0 := cell_later hb9 q0
     replace q1 := cell_later hb9 q1
     replace hown := own_below hown hb09
     clear hMu1 hown9 hb9 hbw8 hb08 d0 hb09 hbwr hb
     go_upto_block 6 with fail
     go_cut [] (fun wx => Below w9.heap.size w9 wx ∧ Hid (mu.any (fun m => !nms.contains m) = false))
     case first =>
      go_wp2_with fail
      go_loopw [19] (fun i wr => ∃ j : Nat, j ≤ mu.length ∧ i = .int .i64 j ∧ Below w9.heap.size w9 wr ∧ Hid (mu.any (fun m => !nms.contains m) = (mu.drop j).any (fun m => !nms.contains m))) (fun i _ => mu.length - (intOf i).toNat)
      case atStart => exact ⟨0, Nat.zero_le _, rfl, Below.refl _ _, by show _ = _; simp⟩
      case round =>
       obtain ⟨j, hj, rfl, hbj, hinv3⟩ := hrel
       by_cases hjl : j < mu.length
       ·obtain ⟨b6, off6, rfl, hbl6, f0⟩ := StrsV.cell (SlV.keep hM9 hbj) hjl
        have hjI : (j : Int) < (mu.length : Int) := by omega
        have hb6j := hb69.trans (hbj.mono hb69.size)
        have hCt := r7_has_any _ nms (B mu[j]) wr (SlV.mono (SlV.keep hN6 hb6j) hb6j.size) (by omega)
        obtain ⟨t1, t2⟩ := Idn.any_drop _ mu j hjl _ hinv3.out
        rw [Idn.L_B] at hCt
        generalize nms.contains mu[j] = cb at *
        have S2 := Lib.hid s2
        clear hinv3 s2 s3 hown hMa1
        cases cb
        ·have HF : Hid (r = 9) := by show _ = _; rw [HR2.out, classedB, S2.out (t1 rfl)]; rfl
         clear t1 t2 S2
         go_wp2_with fail
         refine hCt.mono ?_
         rintro e w10 ⟨rfl, hb10⟩
         go_wp2
         go_ret
         exact ⟨ret_int (by rw [HF.out]), hbw9.trans ((hbj.trans (hb10.mono hbj.size)).mono hbw9.size)⟩
        ·have HF : Hid (mu.any (fun m => !nms.contains m) = (mu.drop (j + 1)).any (fun m => !nms.contains m)) := t2 rfl
         clear t1 t2 S2
         go_wp2_with fail
         refine hCt.mono ?_
         rintro e w10 ⟨rfl, hb10⟩
         go_wp2
         go_roundw
         case rel => exact ⟨j + 1, by omega, by go_num, hbj.trans (hb10.mono hbj.size), HF⟩
         case measure => simp [intOf]; omega
       ·have hjI : ¬ (j : Int) < (mu.length : Int) := by omega
        have HF : Hid (mu.any (fun m => !nms.contains m) = false) := by show _ = _; rw [hinv3.out, List.drop_eq_nil_of_le (by omega)]; rfl
        clear hinv3 s2 s3 hown hMa1
        go_wp2_with fail
        go_meet
        exact ⟨hbj, HF⟩
     case rest =>
      obtain ⟨hbc, hany⟩ := hcut
      have HN : Hid (clsGo (sound s) nms [Idn.mainN] cv = clsGo (sound s) nms (al ++ ma) (cv.drop (k2 + 1))) := s3 hany.out
      have hbwc : Below w.heap.size w wc := hbw9.trans (hbc.mono hbw9.size)
      have hMc := hMa1 wc hbwc
      replace q0 := cell_later hbc q0
      replace q1 := cell_later hbc q1
      replace hown := own_below hown hbc
      have hb6c := hb69.trans (hbc.mono hb69.size)
      obtain ⟨Aal, cal, hval⟩ := own_shape hown
      subst hval
      clear hMa1 s2 s3 hany hM9 hbw9 hb69 hbc
      go_wp2_with fail
      refine hMc.mono ?_
      rintro e w10 ⟨v10, rfl, hown10, hb10⟩
      have hS10 := StrsV.of_own hown10
      obtain ⟨A10, c10, hv10, _⟩ := hS10.shape
      subst hv10
      replace hown := own_below hown hb10
      have hb610 := hb6c.trans (hb10.mono hb6c.size)
      clear hMc hown10
      go_wp2_with (at_builtin; refine wpList_appendS rfl _ _ 45 rfl w6.heap.size 9 Tryz.underlying45 info_str _ _ _ hown rfl _ ma _ hS10 rfl (by omega) hb610.size ?_)
      intro v' w11 ho' hb11 _ _
      clear hown hS10
      go_wp2
      go_roundw
      case rel => exact ⟨k2 + 1, al ++ ma, by omega, by go_num, by rw [List.length_append, List.map_append]; exact ho', hb610.trans hb11, HN, by rw [List.length_append]; omega⟩
      case measure => simp [intOf]; omega
    ·have hlt2I : ¬ (k2 : Int) < (cv.length : Int) := by omega
     have HR3 : Hid (r = if !(decide (0 < cv.length) && !nms.any (fun x => !al.contains x)) then 9 else 0) := by
      show _ = _
      rw [HR2.out, classedB, hinv2.out, List.drop_eq_nil_of_le (by omega)]
      rfl
     have hAl : StrsV wp wp.heap.size u15 al := StrsV.of_own hown
     obtain ⟨Aal, cal, hval, _⟩ := hAl.shape
     subst hval
     clear hinv2 hown HR2 hLi hMu hMa
     go_wp2_with fail
     go_loopw [20] (fun i wr => ∃ j : Nat, j ≤ nms.length ∧ i = .int .i64 j ∧ Below wp.heap.size wp wr ∧ Hid (nms.any (fun x => !al.contains x) = (nms.drop j).any (fun x => !al.contains x))) (fun i _ => nms.length - (intOf i).toNat)
     case atStart => exact ⟨0, Nat.zero_le _, rfl, Below.refl _ _, by show _ = _; simp⟩
     case round =>
      obtain ⟨j, hj, rfl, hbj, hinv3⟩ := hrel
      by_cases hjl : j < nms.length
      ·have hb6j := hb.trans (hbj.mono hb.size)
       obtain ⟨b6, off6, rfl, hbl6, f0⟩ := StrsV.cell (SlV.keep hN6 hb6j) hjl
       have hjI : (j : Int) < (nms.length : Int) := by omega
       have hCt := r7_has_any _ al (B nms[j]) wr (SlV.mono (SlV.keep hAl hbj) hbj.size) (by omega)
       obtain ⟨t1, t2⟩ := Idn.any_drop _ nms j hjl _ hinv3.out
       rw [Idn.L_B] at hCt
       generalize al.contains nms[j] = cb at *
       clear hinv3
       cases cb
       ·have HF : Hid (r = 9) := by show _ = _; rw [HR3.out, t1 rfl]; simp
        clear t1 t2
        go_wp2_with fail
        refine hCt.mono ?_
        rintro e w10 ⟨rfl, hb10⟩
        go_wp2
        go_ret
        exact ⟨ret_int (by rw [HF.out]), hbwr.trans ((hbj.trans (hb10.mono hbj.size)).mono hbwr.size)⟩
       ·have HF : Hid (nms.any (fun x => !al.contains x) = (nms.drop (j + 1)).any (fun x => !al.contains x)) := t2 rfl
        clear t1 t2
        go_wp2_with fail
        refine hCt.mono ?_
        rintro e w10 ⟨rfl, hb10⟩
        go_wp2
        go_roundw
        case rel => exact ⟨j + 1, by omega, by go_num, hbj.trans (hb10.mono hbj.size), HF⟩
        case measure => simp [intOf]; omega
      ·have hjI : ¬ (j : Int) < (nms.length : Int) := by omega
       have hany : nms.any (fun x => !al.contains x) = false := by rw [hinv3.out, List.drop_eq_nil_of_le (by omega)]; rfl
       have HF : Hid (r = if cv.length = 0 then 9 else 0) := by
        show _ = _
        rw [HR3.out, hany]
        by_cases h0 : cv.length = 0
        ·rw [h0]; rfl
        ·rw [if_neg h0, decide_eq_true (Nat.pos_of_ne_zero h0)]; rfl
       clear hinv3 hany HR3
       by_cases h0 : cv.length = 0
       ·have HG : Hid (r = 9) := by show _ = _; rw [HF.out, if_pos h0]
        have hI : ((cv.length : Int) == 0) = true := by rw [h0]; rfl
        clear HF h0
        go_wp2
        go_ret
        exact ⟨ret_int (by rw [HG.out]), hbwr.trans (hbj.mono hbwr.size)⟩
       ·have HG : Hid (r = 0) := by show _ = _; rw [HF.out, if_neg h0]
        have hI : ((cv.length : Int) == 0) = false := by rw [beq_eq_false_iff_ne]; omega
        clear HF h0
        go_wp2
        go_ret
        exact ⟨ret_int (by rw [HG.out]), hbwr.trans (hbj.mono hbwr.size)⟩
end Go.Proofs.YtoopoglkeeoamaaGreatDoor
