/- Part 43 of the proof that Valid returns the specified error: the package variables hold what the program lays; nothing else is asked. -/
import Derived.Test.YtnikolglippfmaaGreatDoorVdz11
import Derived.Test.YtnikolglippfmaaGreatDoorVdz12
import Derived.Test.YtnikolglippfmaaGreatDoorVdz15
import Derived.Test.YtnikolglippfmaaGreatDoorVdz37
import Derived.Test.YtnikolglippfmaaGreatDoorVdz38
import Derived.Test.YtnikolglippfmaaGreatDoorVdz41
import Derived.Test.YtnikolglippfmaaGreatDoorVdz42
/- law07: SchemaChecks, walked. -/
namespace Go.Proofs.YtnikolglippfmaaGreatDoor
open Go.RowKit Go.Sort
open Idn (L B Bs drop_L take_L size_L)
/-- lengths that a slice or a string can have -/
def SLen (s : Idn.Sch) : Prop := s.types.length ≤ 9223372036854775807 ∧ s.classes.length ≤ 9223372036854775807 ∧ ∀ c ∈ s.classes, c.must.length ≤ 9223372036854775807 ∧ c.may.length ≤ 9223372036854775807
theorem short_sm {l : List Bs} (h : short l = true) : Sm l := by
  unfold short at h
  simp only [Bool.and_eq_true, List.all_eq_true, decide_eq_true_eq] at h
  exact ⟨by omega, fun x hx => by have := h.1 x hx; omega⟩
theorem few_ssm {s : Idn.Sch} (h : few s = true) : SSm s := by
  unfold few at h
  simp only [Bool.and_eq_true, List.all_eq_true, decide_eq_true_eq] at h
  obtain ⟨h1, h2, h3, h4⟩ := h
  refine ⟨⟨by omega, fun t ht => by have := h1 t ht; omega⟩, ⟨by omega, fun c hc => ?_⟩⟩
  have h5 := h2 c hc
  unfold fewC at h5
  simp only [Bool.and_eq_true, decide_eq_true_eq] at h5
  exact ⟨by omega, by omega, short_sm h5.2.2.1, short_sm h5.2.2.2⟩
end Go.Proofs.YtnikolglippfmaaGreatDoor
/- identityref07: number. -/
namespace Go.Proofs.YtnikolglippfmaaGreatDoor
open Go.RowKit Go.Sort
open Idn (L B Bs drop_L take_L size_L)
theorem drop0 (u : ByteArray) (h : ¬ 0 < u.size) : L u = [] := by have := drop_end u 0 h; simpa using this
set_option maxHeartbeats 2000000 in
set_option maxRecDepth 100000 in
theorem r7_number_any (s : ByteArray) (w : World) (hs : s.size ≤ 999999999) : Calls Tryz.prog 45 #[.string s] w fun e w' => e = .returned (.tuple #[.int .i64 (Idn.number2 (L s)).1, .bool (Idn.number2 (L s)).2]) ∧ w = w' := by
  generalize hr : Idn.number2 (L s) = r
  have HR : Hid (r = Idn.number2 (L s)) := hr.symm
  clear hr
  unfold Idn.number2 at HR
  obtain ⟨t, m, hm, hts, hmag, hway⟩ : ∃ (t : ByteArray) (m : Bool), m = Idn.isMinus (L s) ∧ t.size ≤ s.size ∧ L t = Idn.mag2 (L s) ∧
      ((m = true ∧ 0 < s.size ∧ t = s.extract 1 s.size ∧ ∃ h : 0 < s.size, ((s[0].toNat : Int) == 45) = true) ∨ (m = false ∧ t = s ∧ (¬ 0 < s.size ∨ ∃ h : 0 < s.size, ((s[0].toNat : Int) == 45) = false))) := by
    by_cases h0 : 0 < s.size
    · have hd := drop_L s 0 h0
      simp only [List.drop_zero] at hd
      by_cases h45 : s[0] = 45
      · have hm : Idn.isMinus (L s) = true := by rw [hd, h45]; rfl
        refine ⟨s.extract 1 s.size, true, hm.symm, by simp, ?_, .inl ⟨rfl, h0, rfl, h0, byte_is (d := 45) h45⟩⟩
        unfold Idn.mag2
        rw [hm, if_pos rfl, extract_drop, Idn.L_B]
        conv => rhs; rw [hd]
        rfl
      · have hm : Idn.isMinus (L s) = false := by rw [hd]; simpa [Idn.isMinus] using h45
        refine ⟨s, false, hm.symm, Nat.le_refl _, ?_, .inr ⟨rfl, rfl, .inr ⟨h0, byte_not (d := 45) h45⟩⟩⟩
        unfold Idn.mag2
        rw [hm]; rfl
    · have he : L s = [] := by have := drop_end s 0 h0; simpa using this
      refine ⟨s, false, by rw [he]; rfl, Nat.le_refl _, by rw [he]; rfl, .inr ⟨rfl, rfl, .inl h0⟩⟩
  rw [← hmag, ← hm] at HR
  clear hm hmag
  rcases hway with ⟨rfl, h0, rfl, h00, e1⟩ | ⟨rfl, rfl, h0 | ⟨h0, e1⟩⟩
  · go_enter Tryz.func45, Tryz.ntmps45
    go_wp2
    generalize s.extract 1 s.size = t at *
    go_loop [0] (fun x => ∃ u : ByteArray, x = .string u ∧ u.size ≤ t.size ∧ Hid (Idn.stripZ (L u) = Idn.stripZ (L t))) (fun x => vSize x)
    case atStart => exact ⟨t, rfl, Nat.le_refl _, rfl⟩
    case round =>
      obtain ⟨u, rfl, hut, hinv⟩ := hrel
      by_cases h1 : 1 < u.size
      · try (exfalso; omega)
        all_goals
          have h1I : (1 : Int) < (u.size : Int) := by omega
          have h2 := drop_two u 0 h1
          simp only [List.drop_zero] at h2
          by_cases h48 : u[0] = 48
          · have e48 : ((u[0].toNat : Int) == 48) = true := byte_is (d := 48) h48
            have HI : Hid (Idn.stripZ (L (u.extract 1 u.size)) = Idn.stripZ (L t)) := by
              show _ = _
              rw [← hinv.out, extract_drop, Idn.L_B, h2, Idn.stripZ, if_pos (by simpa using h48)]
              try simp
            clear h2 h48 hinv HR
            go_wp2
            go_round
            case rel => exact ⟨u.extract 1 u.size, rfl, by simp; omega, HI⟩
            case measure => simp [vSize]; omega
          · have e48 : ((u[0].toNat : Int) == 48) = false := byte_not (d := 48) h48
            have HE : Hid (L u = Idn.stripZ (L t)) := by show _ = _; rw [← hinv.out, h2, Idn.stripZ, if_neg (by simpa using h48)]
            clear h2 h48 hinv
            by_cases hu0 : 0 < u.size
            case neg =>
              first
              | (exfalso; omega)
              | (have hemp : (u.toList == ([] : List UInt8)) = true := by rw [toList_L, drop0 u hu0]; rfl
                 have HF : Hid (r = (0, false)) := by show _ = _; rw [HR.out, ← HE.out, drop0 u hu0]; rfl
                 clear HR HE
                 go_wp2
                 go_ret2
                 exact ⟨by rw [HF.out] <;> rfl, rfl⟩)
            case pos =>
            have hne : L u = u[0] :: (L u).drop 1 := by have := drop_L u 0 hu0; simpa using this
            have hemp : (u.toList == ([] : List UInt8)) = false := by rw [toList_L, hne]; rfl
            have hdg : (L u).isEmpty = false := by rw [hne]; rfl
            have hhd : (L u).headD 0 = u[0] := by rw [hne]; rfl
            clear hne
            by_cases d1 : (u[0].toNat : Int) < 48
            · have HF : Hid (r = (0, false)) := by
                show _ = _
                have : Idn.digit u[0] = false := by unfold Idn.digit; rw [Bool.and_eq_false_iff, decide_eq_false_iff_not]; left; omega
                rw [HR.out, ← HE.out, hhd, this]; simp
              clear HR HE
              go_wp2
              go_ret2
              exact ⟨by rw [HF.out] <;> rfl, rfl⟩
            · by_cases d2 : (57 : Int) < (u[0].toNat : Int)
              · have HF : Hid (r = (0, false)) := by
                  show _ = _
                  have : Idn.digit u[0] = false := by unfold Idn.digit; rw [Bool.and_eq_false_iff, decide_eq_false_iff_not, decide_eq_false_iff_not]; right; omega
                  rw [HR.out, ← HE.out, hhd, this]; simp
                clear HR HE
                go_wp2
                go_ret2
                exact ⟨by rw [HF.out] <;> rfl, rfl⟩
              · have HG : Hid (r = ((Idn.read2 (Idn.signed true (L u))).1, (Idn.read2 (Idn.signed true (L u))).2 == 0)) := by
                  show _ = _
                  have : Idn.digit u[0] = true := by rw [Idn.digit_iff]; omega
                  rw [HR.out, ← HE.out, hhd, this, hdg]; simp
                clear hdg hhd
                by_cases hz0 : L u = [48]
                · have hz : (u.toList == ([48] : List UInt8)) = true := by rw [toList_L, hz0]; rfl
                  have hQ := fun W => r_ReadInt_any (u) W (by omega)
                  have HF : Hid (r = ((Idn.read2 (L (u))).1, (Idn.read2 (L (u))).2 == 0)) := by
                    show _ = _
                    rw [HG.out]
                    rw [hz0]; rfl
                  generalize Idn.read2 (L (u)) = q at *
                  obtain ⟨n, e⟩ := q
                  dsimp only at hQ HF
                  clear HR HE HG
                  go_wp2_with (go_at_call 91; refine (hQ _).mono ?_; rintro e w1 ⟨rfl, rfl⟩)
                  go_ret2
                  exact ⟨by rw [HF.out] <;> rfl, rfl⟩
                · have hz : (u.toList == ([48] : List UInt8)) = false := by rw [toList_L]; simpa using hz0
                  have hL45 : L ((⟨#[45]⟩ : ByteArray) ++ u) = 45 :: L u := by
                    have : (⟨#[45]⟩ : ByteArray) ++ u = B (45 :: L u) := by rw [show (45 :: L u) = [45] ++ L u from rfl, ← B_app]; rfl
                    rw [this, Idn.L_B]
                  have hsz45 : ((⟨#[45]⟩ : ByteArray) ++ u).size = 1 + u.size := by
                    rw [size_L, hL45, size_L u]; simp; omega
                  have hQ := fun W => r_ReadInt_any ((⟨#[45]⟩ : ByteArray) ++ u) W (by rw [hsz45]; omega)
                  have HF : Hid (r = ((Idn.read2 (L ((⟨#[45]⟩ : ByteArray) ++ u))).1, (Idn.read2 (L ((⟨#[45]⟩ : ByteArray) ++ u))).2 == 0)) := by
                    show _ = _
                    rw [HG.out]
                    rw [hL45, Idn.signed, if_pos (by simpa using hz0)]
                  generalize Idn.read2 (L ((⟨#[45]⟩ : ByteArray) ++ u)) = q at *
                  obtain ⟨n, e⟩ := q
                  dsimp only at hQ HF
                  clear HR HE HG
                  go_wp2_with (go_at_call 91; refine (hQ _).mono ?_; rintro e w1 ⟨rfl, rfl⟩)
                  go_ret2
                  exact ⟨by rw [HF.out] <;> rfl, rfl⟩
      · have h1I : ¬ (1 : Int) < (u.size : Int) := by omega
        have HE : Hid (L u = Idn.stripZ (L t)) := by
          show _ = _
          rw [← hinv.out]
          have : (L u).length ≤ 1 := by rw [← size_L]; omega
          cases hx : L u with
          | nil => rfl
          | cons a l =>
            cases l with
            | nil => rfl
            | cons b l => rw [hx] at this; simp at this
        clear hinv
        by_cases hu0 : 0 < u.size
        case neg =>
          first
          | (exfalso; omega)
          | (have hemp : (u.toList == ([] : List UInt8)) = true := by rw [toList_L, drop0 u hu0]; rfl
             have HF : Hid (r = (0, false)) := by show _ = _; rw [HR.out, ← HE.out, drop0 u hu0]; rfl
             clear HR HE
             go_wp2
             go_ret2
             exact ⟨by rw [HF.out] <;> rfl, rfl⟩)
        case pos =>
        have hne : L u = u[0] :: (L u).drop 1 := by have := drop_L u 0 hu0; simpa using this
        have hemp : (u.toList == ([] : List UInt8)) = false := by rw [toList_L, hne]; rfl
        have hdg : (L u).isEmpty = false := by rw [hne]; rfl
        have hhd : (L u).headD 0 = u[0] := by rw [hne]; rfl
        clear hne
        by_cases d1 : (u[0].toNat : Int) < 48
        · have HF : Hid (r = (0, false)) := by
            show _ = _
            have : Idn.digit u[0] = false := by unfold Idn.digit; rw [Bool.and_eq_false_iff, decide_eq_false_iff_not]; left; omega
            rw [HR.out, ← HE.out, hhd, this]; simp
          clear HR HE
          go_wp2
          go_ret2
          exact ⟨by rw [HF.out] <;> rfl, rfl⟩
        · by_cases d2 : (57 : Int) < (u[0].toNat : Int)
          · have HF : Hid (r = (0, false)) := by
              show _ = _
              have : Idn.digit u[0] = false := by unfold Idn.digit; rw [Bool.and_eq_false_iff, decide_eq_false_iff_not, decide_eq_false_iff_not]; right; omega
              rw [HR.out, ← HE.out, hhd, this]; simp
            clear HR HE
            go_wp2
            go_ret2
            exact ⟨by rw [HF.out] <;> rfl, rfl⟩
          · have HG : Hid (r = ((Idn.read2 (Idn.signed true (L u))).1, (Idn.read2 (Idn.signed true (L u))).2 == 0)) := by
              show _ = _
              have : Idn.digit u[0] = true := by rw [Idn.digit_iff]; omega
              rw [HR.out, ← HE.out, hhd, this, hdg]; simp
            clear hdg hhd
            by_cases hz0 : L u = [48]
            · have hz : (u.toList == ([48] : List UInt8)) = true := by rw [toList_L, hz0]; rfl
              have hQ := fun W => r_ReadInt_any (u) W (by omega)
              have HF : Hid (r = ((Idn.read2 (L (u))).1, (Idn.read2 (L (u))).2 == 0)) := by
                show _ = _
                rw [HG.out]
                rw [hz0]; rfl
              generalize Idn.read2 (L (u)) = q at *
              obtain ⟨n, e⟩ := q
              dsimp only at hQ HF
              clear HR HE HG
              go_wp2_with (go_at_call 91; refine (hQ _).mono ?_; rintro e w1 ⟨rfl, rfl⟩)
              go_ret2
              exact ⟨by rw [HF.out] <;> rfl, rfl⟩
            · have hz : (u.toList == ([48] : List UInt8)) = false := by rw [toList_L]; simpa using hz0
              have hL45 : L ((⟨#[45]⟩ : ByteArray) ++ u) = 45 :: L u := by
                have : (⟨#[45]⟩ : ByteArray) ++ u = B (45 :: L u) := by rw [show (45 :: L u) = [45] ++ L u from rfl, ← B_app]; rfl
                rw [this, Idn.L_B]
              have hsz45 : ((⟨#[45]⟩ : ByteArray) ++ u).size = 1 + u.size := by
                rw [size_L, hL45, size_L u]; simp; omega
              have hQ := fun W => r_ReadInt_any ((⟨#[45]⟩ : ByteArray) ++ u) W (by rw [hsz45]; omega)
              have HF : Hid (r = ((Idn.read2 (L ((⟨#[45]⟩ : ByteArray) ++ u))).1, (Idn.read2 (L ((⟨#[45]⟩ : ByteArray) ++ u))).2 == 0)) := by
                show _ = _
                rw [HG.out]
                rw [hL45, Idn.signed, if_pos (by simpa using hz0)]
              generalize Idn.read2 (L ((⟨#[45]⟩ : ByteArray) ++ u)) = q at *
              obtain ⟨n, e⟩ := q
              dsimp only at hQ HF
              clear HR HE HG
              go_wp2_with (go_at_call 91; refine (hQ _).mono ?_; rintro e w1 ⟨rfl, rfl⟩)
              go_ret2
              exact ⟨by rw [HF.out] <;> rfl, rfl⟩
  all_goals
    go_enter Tryz.func45, Tryz.ntmps45
    go_wp2
    try generalize s = t at hs HR ⊢
    go_loop [0] (fun x => ∃ u : ByteArray, x = .string u ∧ u.size ≤ t.size ∧ Hid (Idn.stripZ (L u) = Idn.stripZ (L t))) (fun x => vSize x)
    case atStart => exact ⟨t, rfl, Nat.le_refl _, rfl⟩
    case round =>
      obtain ⟨u, rfl, hut, hinv⟩ := hrel
      by_cases h1 : 1 < u.size
      · try (exfalso; omega)
        all_goals
          have h1I : (1 : Int) < (u.size : Int) := by omega
          have h2 := drop_two u 0 h1
          simp only [List.drop_zero] at h2
          by_cases h48 : u[0] = 48
          · have e48 : ((u[0].toNat : Int) == 48) = true := byte_is (d := 48) h48
            have HI : Hid (Idn.stripZ (L (u.extract 1 u.size)) = Idn.stripZ (L t)) := by
              show _ = _
              rw [← hinv.out, extract_drop, Idn.L_B, h2, Idn.stripZ, if_pos (by simpa using h48)]
              try simp
            clear h2 h48 hinv HR
            go_wp2
            go_round
            case rel => exact ⟨u.extract 1 u.size, rfl, by simp; omega, HI⟩
            case measure => simp [vSize]; omega
          · have e48 : ((u[0].toNat : Int) == 48) = false := byte_not (d := 48) h48
            have HE : Hid (L u = Idn.stripZ (L t)) := by show _ = _; rw [← hinv.out, h2, Idn.stripZ, if_neg (by simpa using h48)]
            clear h2 h48 hinv
            by_cases hu0 : 0 < u.size
            case neg =>
              first
              | (exfalso; omega)
              | (have hemp : (u.toList == ([] : List UInt8)) = true := by rw [toList_L, drop0 u hu0]; rfl
                 have HF : Hid (r = (0, false)) := by show _ = _; rw [HR.out, ← HE.out, drop0 u hu0]; rfl
                 clear HR HE
                 go_wp2
                 go_ret2
                 exact ⟨by rw [HF.out] <;> rfl, rfl⟩)
            case pos =>
            have hne : L u = u[0] :: (L u).drop 1 := by have := drop_L u 0 hu0; simpa using this
            have hemp : (u.toList == ([] : List UInt8)) = false := by rw [toList_L, hne]; rfl
            have hdg : (L u).isEmpty = false := by rw [hne]; rfl
            have hhd : (L u).headD 0 = u[0] := by rw [hne]; rfl
            clear hne
            by_cases d1 : (u[0].toNat : Int) < 48
            · have HF : Hid (r = (0, false)) := by
                show _ = _
                have : Idn.digit u[0] = false := by unfold Idn.digit; rw [Bool.and_eq_false_iff, decide_eq_false_iff_not]; left; omega
                rw [HR.out, ← HE.out, hhd, this]; simp
              clear HR HE
              go_wp2
              go_ret2
              exact ⟨by rw [HF.out] <;> rfl, rfl⟩
            · by_cases d2 : (57 : Int) < (u[0].toNat : Int)
              · have HF : Hid (r = (0, false)) := by
                  show _ = _
                  have : Idn.digit u[0] = false := by unfold Idn.digit; rw [Bool.and_eq_false_iff, decide_eq_false_iff_not, decide_eq_false_iff_not]; right; omega
                  rw [HR.out, ← HE.out, hhd, this]; simp
                clear HR HE
                go_wp2
                go_ret2
                exact ⟨by rw [HF.out] <;> rfl, rfl⟩
              · have HG : Hid (r = ((Idn.read2 (Idn.signed false (L u))).1, (Idn.read2 (Idn.signed false (L u))).2 == 0)) := by
                  show _ = _
                  have : Idn.digit u[0] = true := by rw [Idn.digit_iff]; omega
                  rw [HR.out, ← HE.out, hhd, this, hdg]; simp
                clear hdg hhd
                have hQ := fun W => r_ReadInt_any (u) W (by omega)
                have HF : Hid (r = ((Idn.read2 (L (u))).1, (Idn.read2 (L (u))).2 == 0)) := by
                  show _ = _
                  rw [HG.out]
                  rw [Idn.signed]; rfl
                generalize Idn.read2 (L (u)) = q at *
                obtain ⟨n, e⟩ := q
                dsimp only at hQ HF
                clear HR HE HG
                go_wp2_with (go_at_call 91; refine (hQ _).mono ?_; rintro e w1 ⟨rfl, rfl⟩)
                go_ret2
                exact ⟨by rw [HF.out] <;> rfl, rfl⟩
      · have h1I : ¬ (1 : Int) < (u.size : Int) := by omega
        have HE : Hid (L u = Idn.stripZ (L t)) := by
          show _ = _
          rw [← hinv.out]
          have : (L u).length ≤ 1 := by rw [← size_L]; omega
          cases hx : L u with
          | nil => rfl
          | cons a l =>
            cases l with
            | nil => rfl
            | cons b l => rw [hx] at this; simp at this
        clear hinv
        by_cases hu0 : 0 < u.size
        case neg =>
          first
          | (exfalso; omega)
          | (have hemp : (u.toList == ([] : List UInt8)) = true := by rw [toList_L, drop0 u hu0]; rfl
             have HF : Hid (r = (0, false)) := by show _ = _; rw [HR.out, ← HE.out, drop0 u hu0]; rfl
             clear HR HE
             go_wp2
             go_ret2
             exact ⟨by rw [HF.out] <;> rfl, rfl⟩)
        case pos =>
        have hne : L u = u[0] :: (L u).drop 1 := by have := drop_L u 0 hu0; simpa using this
        have hemp : (u.toList == ([] : List UInt8)) = false := by rw [toList_L, hne]; rfl
        have hdg : (L u).isEmpty = false := by rw [hne]; rfl
        have hhd : (L u).headD 0 = u[0] := by rw [hne]; rfl
        clear hne
        by_cases d1 : (u[0].toNat : Int) < 48
        · have HF : Hid (r = (0, false)) := by
            show _ = _
            have : Idn.digit u[0] = false := by unfold Idn.digit; rw [Bool.and_eq_false_iff, decide_eq_false_iff_not]; left; omega
            rw [HR.out, ← HE.out, hhd, this]; simp
          clear HR HE
          go_wp2
          go_ret2
          exact ⟨by rw [HF.out] <;> rfl, rfl⟩
        · by_cases d2 : (57 : Int) < (u[0].toNat : Int)
          · have HF : Hid (r = (0, false)) := by
              show _ = _
              have : Idn.digit u[0] = false := by unfold Idn.digit; rw [Bool.and_eq_false_iff, decide_eq_false_iff_not, decide_eq_false_iff_not]; right; omega
              rw [HR.out, ← HE.out, hhd, this]; simp
            clear HR HE
            go_wp2
            go_ret2
            exact ⟨by rw [HF.out] <;> rfl, rfl⟩
          · have HG : Hid (r = ((Idn.read2 (Idn.signed false (L u))).1, (Idn.read2 (Idn.signed false (L u))).2 == 0)) := by
              show _ = _
              have : Idn.digit u[0] = true := by rw [Idn.digit_iff]; omega
              rw [HR.out, ← HE.out, hhd, this, hdg]; simp
            clear hdg hhd
            have hQ := fun W => r_ReadInt_any (u) W (by omega)
            have HF : Hid (r = ((Idn.read2 (L (u))).1, (Idn.read2 (L (u))).2 == 0)) := by
              show _ = _
              rw [HG.out]
              rw [Idn.signed]; rfl
            generalize Idn.read2 (L (u)) = q at *
            obtain ⟨n, e⟩ := q
            dsimp only at hQ HF
            clear HR HE HG
            go_wp2_with (go_at_call 91; refine (hQ _).mono ?_; rintro e w1 ⟨rfl, rfl⟩)
            go_ret2
            exact ⟨by rw [HF.out] <;> rfl, rfl⟩
end Go.Proofs.YtnikolglippfmaaGreatDoor
/- identityref07: form. -/
namespace Go.Proofs.YtnikolglippfmaaGreatDoor
open Go.RowKit Go.Sort
open Idn (L B Bs drop_L take_L size_L)
theorem read2_range (l : Bs) : -9223372036854775808 ≤ (Idn.read2 l).1 ∧ (Idn.read2 l).1 ≤ 9223372036854775807 := by
  unfold Idn.read2
  repeat' split
  all_goals (try dsimp only)
  all_goals omega
theorem number2_range (l : Bs) : -9223372036854775808 ≤ (Idn.number2 l).1 ∧ (Idn.number2 l).1 ≤ 9223372036854775807 := by
  unfold Idn.number2
  split
  · exact ⟨by decide, by decide⟩
  · exact read2_range _
set_option maxHeartbeats 1000000 in
set_option maxRecDepth 100000 in
theorem r7_form_any (x : Int) (h1 : 1 ≤ x) (h5 : x ≤ 5) (v : ByteArray) (w : World) (hs : v.size ≤ 999999999) :
    Calls Tryz.prog 39 #[.int .i64 x, .string v] w fun e w' => e = .returned (.tuple #[.string (B (form2 x (L v)).1), .bool (form2 x (L v)).2]) ∧ Below w.heap.size w w' := by
  have hFo := fun W => r_fold_any v W (by omega)
  have hNu := fun W => r7_number_any v W hs
  have hCl := fun W => r5_Clean_any v W (by omega)
  have hLo := fun W => r_lower_any v W (by omega)
  obtain ⟨n1, n2⟩ := number2_range (L v)
  generalize hr : form2 x (L v) = r
  have HR : Hid (r = form2 x (L v)) := hr.symm
  clear hr
  unfold form2 at HR
  have hx : x = 1 ∨ x = 2 ∨ x = 3 ∨ x = 4 ∨ x = 5 := by omega
  clear h1 h5
  rcases hx with rfl | rfl | rfl | rfl | rfl
  · have HF : Hid (r = (Idn.fold (L v), true)) := HR.out
    clear HR hNu hCl hLo
    go_enter Tryz.func39, Tryz.ntmps39
    go_wp2_with fail
    refine (hFo _).mono ?_
    rintro e w1 ⟨rfl, hb1⟩
    go_wp2
    go_ret2
    exact ⟨by rw [HF.out] <;> rfl, hb1⟩
  · have HF : Hid (r = (L v, true)) := HR.out
    clear HR hNu hCl hLo hFo
    go_enter Tryz.func39, Tryz.ntmps39
    go_wp2
    go_ret2
    exact ⟨by rw [HF.out] <;> rfl, Below.refl _ _⟩
  · have HF : Hid (r = (Lib.itoa (Idn.number2 (L v)).1, (Idn.number2 (L v)).2)) := HR.out
    have hI := fun W => r_Int_any (Idn.number2 (L v)).1 n1 n2 W
    generalize Idn.number2 (L v) = q at *
    obtain ⟨n, ok⟩ := q
    dsimp only at *
    clear HR hCl hLo hFo
    go_enter Tryz.func39, Tryz.ntmps39
    go_wp2_with fail
    refine (hNu _).mono ?_
    rintro e w1 ⟨rfl, rfl⟩
    go_wp2_with fail
    refine (hI _).mono ?_
    rintro e w1 ⟨rfl, hb1⟩
    go_wp2
    go_ret2
    exact ⟨by rw [HF.out] <;> rfl, hb1⟩
  · have HF : Hid (r = ((Idn.cleanN (L v)).1, (Idn.cleanN (L v)).2 == 0)) := HR.out
    generalize Idn.cleanN (L v) = q at *
    obtain ⟨t, x⟩ := q
    dsimp only at *
    clear HR hNu hLo hFo
    go_enter Tryz.func39, Tryz.ntmps39
    go_wp2_with fail
    refine (hCl _).mono ?_
    rintro e w1 ⟨rfl, hb1⟩
    go_wp2
    go_ret2
    exact ⟨by rw [HF.out] <;> rfl, hb1⟩
  · have HF : Hid (r = if Idn.lower (L v) = tTrue then ([84, 82, 85, 69], true) else ([70, 65, 76, 83, 69], Idn.lower (L v) == tFalse)) := HR.out
    have hway : (((B (Idn.lower (L v))).toList == ([116, 114, 117, 101] : List UInt8)) = true ∧ Hid (r = ([84, 82, 85, 69], true))) ∨ (((B (Idn.lower (L v))).toList == ([116, 114, 117, 101] : List UInt8)) = false ∧ ∃ b : Bool, ((B (Idn.lower (L v))).toList == ([102, 97, 108, 115, 101] : List UInt8)) = b ∧ Hid (r = ([70, 65, 76, 83, 69], b))) := by
      by_cases h : Idn.lower (L v) = tTrue
      · exact .inl ⟨by rw [toList_L, Idn.L_B, h]; rfl, by show _ = _; rw [HF.out, if_pos h]⟩
      · exact .inr ⟨by rw [toList_L, Idn.L_B, beq_eq_false_iff_ne]; exact h, Idn.lower (L v) == tFalse, by rw [toList_L, Idn.L_B]; rfl, by show _ = _; rw [HF.out, if_neg h]⟩
    clear HF HR hNu hCl hFo
    generalize B (Idn.lower (L v)) = t at *
    rcases hway with ⟨z1, HG⟩ | ⟨z1, b, z2, HG⟩
    · go_enter Tryz.func39, Tryz.ntmps39
      go_wp2_with fail
      refine (hLo _).mono ?_
      rintro e w1 ⟨rfl, hb1⟩
      go_wp2
      go_ret2
      exact ⟨by rw [HG.out] <;> rfl, hb1⟩
    · go_enter Tryz.func39, Tryz.ntmps39
      go_wp2_with fail
      refine (hLo _).mono ?_
      rintro e w1 ⟨rfl, hb1⟩
      go_wp2_with fail
      refine (hLo _).mono ?_
      rintro e w2 ⟨rfl, hb2⟩
      go_wp2
      go_ret2
      exact ⟨by rw [HG.out] <;> rfl, hb1.trans (hb2.mono hb1.size)⟩
end Go.Proofs.YtnikolglippfmaaGreatDoor
/- identityref07: Normal, Compare. -/
namespace Go.Proofs.YtnikolglippfmaaGreatDoor
open Go.RowKit Go.Sort
open Idn (L B Bs drop_L take_L size_L)
set_option maxHeartbeats 2000000 in
set_option maxRecDepth 100000 in
theorem r_Normal_any (u : Value) (s : Idn.Sch) (n v : ByteArray) (w : World) (hu : SchV w w.heap.size u s) (hs : SSm s) (hn : n.size ≤ 1000000000) (hv : v.size ≤ 100000000) :
    Calls Tryz.prog 11 #[u, .string n, .string v] w fun e w' => e = .returned (.tuple #[.string (B (sNorm s (L n) (L v)).1), .int .i64 (sNorm s (L n) (L v)).2]) ∧ Below w.heap.size w w' := by
  have hT := fun W (hW : Below w.heap.size w W) => r_type_any u s n W (SchV.mono (SchV.keep hu hW) hW.size) hs hn
  have hC1 := fun W => r_clean_any v W (by omega)
  obtain ⟨a, b, rfl, hT0, hC0⟩ := hu
  obtain ⟨A, ca, rfl, hca⟩ := SlV.shape hT0
  obtain ⟨A', cb, rfl, hcb⟩ := SlV.shape hC0
  clear hT0 hC0
  have hsy := fun h => syn_range (s := s) (n := L n) h
  rw [← rNorm_eq]
  generalize hr : rNorm s (L n) (L v) = r
  have HR : Hid (r = rNorm s (L n) (L v)) := hr.symm
  clear hr
  unfold rNorm at HR
  generalize tyLook (sound s) (L n) = tl at *
  obtain ⟨⟨tn, ty, ts⟩, ok⟩ := tl
  unfold tyV at hT
  dsimp only [sv] at *
  cases ok
  · have HF : Hid (r = ([], 6)) := by show _ = _; rw [HR.out, if_pos rfl]
    clear HR hsy hC1
    go_enter Tryz.func11, Tryz.ntmps11
    go_wp2_with fail
    with_reducible refine gen1 (R := fun W => Calls Tryz.prog 37 _ W _) ?_
    intro W hbW hszW _ _
    refine (hT W hbW).mono ?_
    rintro e w1 ⟨rfl, hb1⟩
    have hbw1 := hbW.trans (hb1.mono hbW.size)
    clear hT
    go_wp2
    go_ret2
    exact ⟨by rw [HF.out] <;> rfl, hbw1.alloc hbw1.size _⟩
  · obtain ⟨y1, y5⟩ := hsy rfl
    have hFm := fun W => r7_form_any ty y1 y5 v W (by omega)
    have hF2 := form2_eq y1 y5 (L v)
    have hlen := length_norm ty (L v) (by rw [← size_L]; omega)
    have hfl : (form2 ty (L v)).2 = true → (form2 ty (L v)).1.length ≤ 1000000000 := fun h => by rw [hF2.2 (by rw [← hF2.1]; exact h)]; exact hlen
    clear hF2 hlen hsy
    generalize form2 ty (L v) = f at *
    obtain ⟨f1, f2⟩ := f
    dsimp only at *
    cases hcl : Idn.clean (L v)
    · rw [hcl] at hC1 HR
      have HF : Hid (r = ([], 8)) := by show _ = _; rw [HR.out, if_neg (by decide), if_pos rfl]
      clear HR hfl hFm hcl
      go_enter Tryz.func11, Tryz.ntmps11
      go_wp2_with fail
      with_reducible refine gen1 (R := fun W => Calls Tryz.prog 37 _ W _) ?_
      intro W hbW hszW _ _
      refine (hT W hbW).mono ?_
      rintro e w1 ⟨rfl, hb1⟩
      have hbw1 := hbW.trans (hb1.mono hbW.size)
      clear hT hszW
      go_upto_region 2 with fail
      with_reducible refine gen1 (R := fun W => Code.wp Tryz.prog _ _ _ W) ?_
      intro W4 hbW4 hszW4 hc4 _
      have p1 : W4.cell? ⟨w1.heap.size, 1, none⟩ = some (.int .i64 ty) := hc4 1 _ rfl
      have hbw4 := hbw1.trans (hbW4.mono hbw1.size)
      clear hc4 hszW4
      go_wp2_with fail
      refine (hC1 W4).mono ?_
      rintro e w5 ⟨rfl, rfl⟩
      clear hC1
      go_wp2
      go_ret2
      exact ⟨by rw [HF.out] <;> rfl, hbw4⟩
    · rw [hcl] at hC1 HR
      clear hcl
      cases f2
      · have HF : Hid (r = ([], 8)) := by show _ = _; rw [HR.out, if_neg (by decide), if_neg (by decide), if_pos (by simp)]
        clear HR hfl
        go_enter Tryz.func11, Tryz.ntmps11
        go_wp2_with fail
        with_reducible refine gen1 (R := fun W => Calls Tryz.prog 37 _ W _) ?_
        intro W hbW hszW _ _
        refine (hT W hbW).mono ?_
        rintro e w1 ⟨rfl, hb1⟩
        have hbw1 := hbW.trans (hb1.mono hbW.size)
        clear hT hszW
        go_upto_region 2 with fail
        with_reducible refine gen1 (R := fun W => Code.wp Tryz.prog _ _ _ W) ?_
        intro W4 hbW4 hszW4 hc4 _
        have p1 : W4.cell? ⟨w1.heap.size, 1, none⟩ = some (.int .i64 ty) := hc4 1 _ rfl
        have hbw4 := hbw1.trans (hbW4.mono hbw1.size)
        clear hc4 hszW4
        go_wp2_with fail
        refine (hC1 W4).mono ?_
        rintro e w5 ⟨rfl, rfl⟩
        clear hC1
        go_wp2_with fail
        refine (hFm W4).mono ?_
        rintro e w6 ⟨rfl, hb6⟩
        have hbw6 := hbw4.trans (hb6.mono hbw4.size)
        clear hFm
        go_wp2
        go_ret2
        exact ⟨by rw [HF.out] <;> rfl, hbw6⟩
      · have hC2 := fun W => r_clean_any (B f1) W (by have := hfl rfl; rw [Idn.size_B]; omega)
        rw [Idn.L_B] at hC2
        have HF : Hid (r = if Idn.clean f1 = false then ([], 8) else (f1, 0)) := by
          show _ = _
          rw [HR.out, if_neg (by decide), if_neg (by decide)]
          cases Idn.clean f1 <;> rfl
        clear HR hfl
        cases hcf : Idn.clean f1
        all_goals
          rw [hcf] at hC2 HF
          clear hcf
          go_enter Tryz.func11, Tryz.ntmps11
          go_wp2_with fail
          with_reducible refine gen1 (R := fun W => Calls Tryz.prog 37 _ W _) ?_
          intro W hbW hszW _ _
          refine (hT W hbW).mono ?_
          rintro e w1 ⟨rfl, hb1⟩
          have hbw1 := hbW.trans (hb1.mono hbW.size)
          clear hT hszW
          go_upto_region 2 with fail
          with_reducible refine gen1 (R := fun W => Code.wp Tryz.prog _ _ _ W) ?_
          intro W4 hbW4 hszW4 hc4 _
          have p1 : W4.cell? ⟨w1.heap.size, 1, none⟩ = some (.int .i64 ty) := hc4 1 _ rfl
          have hbw4 := hbw1.trans (hbW4.mono hbw1.size)
          clear hc4 hszW4
          go_wp2_with fail
          refine (hC1 W4).mono ?_
          rintro e w5 ⟨rfl, rfl⟩
          clear hC1
          go_wp2_with fail
          refine (hFm W4).mono ?_
          rintro e w6 ⟨rfl, hb6⟩
          have hbw6 := hbw4.trans (hb6.mono hbw4.size)
          clear hFm
          go_wp2_with fail
          refine (hC2 _).mono ?_
          rintro e w7 ⟨rfl, rfl⟩
          go_wp2
          go_ret2
          exact ⟨by rw [HF.out] <;> rfl, hbw6⟩
theorem sNorm_len (s : Idn.Sch) (n v : Bs) (h : v.length ≤ 100000000) : (sNorm s n v).1.length ≤ 1000000000 := kNorm_len (sound s) n v h
theorem sNorm_int {s : Idn.Sch} {n v : Bs} (h : (sNorm s n v).2 = 0) (hx : (tyLook (sound s) n).1.syn = 3) : (sNorm s n v).1.length ≤ 21 := by
  obtain ⟨_, h2, _⟩ := sNorm_ok (Prod.ext rfl h : sNorm s n v = ((sNorm s n v).1, 0))
  rw [hx] at h2
  obtain ⟨h3, _⟩ := normV_parts h2
  have h4 : Idn.integer v = ((sNorm s n v).1, true) := h3
  obtain ⟨k, k1, k2, k3⟩ := integer_form (v := v) (by rw [h4])
  rw [h4] at k3
  dsimp only at k3
  rw [k3]
  exact Lib.itoa_length_le _ k1 k2
set_option maxHeartbeats 2000000 in
set_option maxRecDepth 100000 in
theorem r_Compare_any (u : Value) (s : Idn.Sch) (n v1 v2 : ByteArray) (w : World) (hu : SchV w w.heap.size u s) (hs : SSm s) (hn : n.size ≤ 1000000000) (hv1 : v1.size ≤ 100000000) (hv2 : v2.size ≤ 100000000) :
    Calls Tryz.prog 13 #[u, .string n, .string v1, .string v2] w fun e w' => e = .returned (.tuple #[.int .i64 (sComp s (L n) (L v1) (L v2)).1, .int .i64 (sComp s (L n) (L v1) (L v2)).2]) ∧ Below w.heap.size w w' := by
  have hV := fun W (hW : Below w.heap.size w W) => SchV.mono (SchV.keep hu hW) hW.size
  have k1 := fun W (hW : Below w.heap.size w W) => r_Normal_any u s n v1 W (hV W hW) hs hn hv1
  have k2 := fun W (hW : Below w.heap.size w W) => r_Normal_any u s n v2 W (hV W hW) hs hn hv2
  have kT := fun W (hW : Below w.heap.size w W) => r_type_any u s n W (hV W hW) hs hn
  obtain ⟨a, b, rfl, hT0, hC0⟩ := hu
  obtain ⟨A, ca, rfl, hca⟩ := SlV.shape hT0
  obtain ⟨A', cb, rfl, hcb⟩ := SlV.shape hC0
  clear hT0 hC0 hV
  have hl1 := sNorm_len s (L n) (L v1) (by have := size_L v1; omega)
  have hl2 := sNorm_len s (L n) (L v2) (by have := size_L v2; omega)
  have hi1 := fun h1 h2 => sNorm_int (s := s) (n := L n) (v := L v1) h1 h2
  have hi2 := fun h1 h2 => sNorm_int (s := s) (n := L n) (v := L v2) h1 h2
  rw [← rComp_eq]
  generalize hr : rComp s (L n) (L v1) (L v2) = r
  have HR : Hid (r = rComp s (L n) (L v1) (L v2)) := hr.symm
  clear hr
  unfold rComp at HR
  generalize sNorm s (L n) (L v1) = na at *
  generalize sNorm s (L n) (L v2) = nb at *
  generalize tyLook (sound s) (L n) = tl at *
  obtain ⟨a, ea⟩ := na
  obtain ⟨b, eb⟩ := nb
  obtain ⟨⟨tn, ty, ts⟩, ok⟩ := tl
  unfold tyV at kT
  dsimp only [sv] at *
  by_cases hea : ea = 0
  case neg =>
    have HF : Hid (r = (0, ea)) := by show _ = _; rw [HR.out, if_pos hea]
    have e1 : (ea == 0) = false := by simpa using hea
    have e2 : (ea != 0) = true := by simpa using hea
    clear HR hea hi1 hi2 k2 kT
    go_enter Tryz.func13, Tryz.ntmps13
    go_wp2_with fail
    with_reducible refine gen1 (R := fun W => Calls Tryz.prog 11 _ W _) ?_
    intro W hbW hszW _ _
    refine (k1 W hbW).mono ?_
    rintro e w1 ⟨rfl, hb1⟩
    have hbw1 := hbW.trans (hb1.mono hbW.size)
    clear k1
    go_wp2
    go_ret2
    exact ⟨by rw [HF.out] <;> rfl, hbw1⟩
  subst hea
  by_cases heb : eb = 0
  case neg =>
    have HF : Hid (r = (0, eb)) := by show _ = _; rw [HR.out, if_neg (by decide), if_pos heb]
    have e1 : (eb == 0) = false := by simpa using heb
    have e2 : (eb != 0) = true := by simpa using heb
    clear HR heb hi1 hi2 kT
    go_enter Tryz.func13, Tryz.ntmps13
    go_wp2_with fail
    with_reducible refine gen1 (R := fun W => Calls Tryz.prog 11 _ W _) ?_
    intro W hbW hszW hc0 _
    have q0 := hc0 0 _ rfl
    have q1 := hc0 1 _ rfl
    refine (k1 W hbW).mono ?_
    rintro e w1 ⟨rfl, hb1⟩
    replace q0 := cell_later hb1 q0
    replace q1 := cell_later hb1 q1
    have hbw1 := hbW.trans (hb1.mono hbW.size)
    clear k1 hc0
    go_wp2_with fail
    refine (k2 w1 hbw1).mono ?_
    rintro e w2 ⟨rfl, hb2⟩
    have hbw2 := hbw1.trans (hb2.mono hbw1.size)
    clear k2
    go_wp2
    go_ret2
    exact ⟨by rw [HF.out] <;> rfl, hbw2⟩
  subst heb
  have HF0 : Hid (r = if ty = 4 then (cmpNm a b, 0) else if ty = 3 then (Lib.compareInt (Idn.number2 a).1 (Idn.number2 b).1, 0) else (cmpB a b, 0)) := by show _ = _; rw [HR.out, if_neg (by decide), if_neg (by decide)]
  have kC := fun W => r5_Compare_any (B a) (B b) W (by rw [Idn.size_B]; omega) (by rw [Idn.size_B]; omega)
  have kO := fun W => r_Order_any (B a) (B b) W
  rw [Idn.L_B, Idn.L_B] at kC kO
  clear HR
  go_enter Tryz.func13, Tryz.ntmps13
  go_wp2_with fail
  with_reducible refine gen1 (R := fun W => Calls Tryz.prog 11 _ W _) ?_
  intro W hbW hszW hc0 _
  have q0 := hc0 0 _ rfl
  have q1 := hc0 1 _ rfl
  refine (k1 W hbW).mono ?_
  rintro e w1 ⟨rfl, hb1⟩
  replace q0 := cell_later hb1 q0
  replace q1 := cell_later hb1 q1
  have hbw1 := hbW.trans (hb1.mono hbW.size)
  clear k1 hc0
  go_wp2_with fail
  refine (k2 w1 hbw1).mono ?_
  rintro e w2 ⟨rfl, hb2⟩
  replace q0 := cell_later hb2 q0
  replace q1 := cell_later hb2 q1
  have hbw2 := hbw1.trans (hb2.mono hbw1.size)
  clear k2
  go_wp2_with fail
  refine (kT w2 hbw2).mono ?_
  rintro e w3 ⟨rfl, hb3⟩
  have hbw3 := hbw2.trans (hb3.mono hbw2.size)
  clear kT q0 q1 hb1 hb2 hb3
  go_upto_region 8 with fail
  with_reducible refine gen1 (R := fun W => Code.wp Tryz.prog _ _ _ W) ?_
  intro W4 hbW4 hszW4 hc4 _
  have p1 : W4.cell? ⟨w3.heap.size, 1, none⟩ = some (.int .i64 ty) := hc4 1 _ rfl
  have hbw4 := hbw3.trans (hbW4.mono hbw3.size)
  clear hc4 hszW4 hbW4
  by_cases h4 : ty = 4
  · have HF : Hid (r = (cmpNm a b, 0)) := by show _ = _; rw [HF0.out, if_pos h4]
    have e4 : (ty == 4) = true := by simpa using h4
    generalize cmpNm a b = cn at *
    clear HF0 h4 hi1 hi2 kO
    go_wp2_with fail
    refine (kC W4).mono ?_
    rintro e w5 ⟨rfl, hb5⟩
    go_wp2
    go_ret2
    exact ⟨by rw [HF.out] <;> rfl, hbw4.trans (hb5.mono hbw4.size)⟩
  have e4 : (ty == 4) = false := by simpa using h4
  by_cases h3 : ty = 3
  · have HF : Hid (r = (Lib.compareInt (Idn.number2 a).1 (Idn.number2 b).1, 0)) := by show _ = _; rw [HF0.out, if_neg h4, if_pos h3]
    have e3 : (ty == 3) = true := by simpa using h3
    have h21 := hi1 (by first | rfl | trivial) h3
    have h22 := hi2 (by first | rfl | trivial) h3
    have kN1 := fun W => r7_number_any (B a) W (by rw [Idn.size_B]; omega)
    have kN2 := fun W => r7_number_any (B b) W (by rw [Idn.size_B]; omega)
    rw [Idn.L_B] at kN1 kN2
    generalize Idn.number2 a = x1 at *
    generalize Idn.number2 b = x2 at *
    obtain ⟨x1, y1⟩ := x1
    obtain ⟨x2, y2⟩ := x2
    dsimp only at kN1 kN2 HF
    clear HF0 h4 h3 hi1 hi2 kO kC
    rcases Int.lt_trichotomy x1 x2 with hc | hc | hc
    · have HG : Hid (r = (-1, 0)) := by show _ = _; rw [HF.out, Lib.compareInt, if_pos hc]
      clear HF
      go_wp2_with fail
      refine (kN1 W4).mono ?_
      rintro e w5 ⟨rfl, rfl⟩
      go_wp2_with fail
      refine (kN2 W4).mono ?_
      rintro e w6 ⟨rfl, rfl⟩
      go_wp2
      go_ret2
      exact ⟨by rw [HG.out] <;> rfl, hbw4⟩
    · have n1 : ¬ x1 < x2 := by omega
      have n2 : ¬ x2 < x1 := by omega
      have HG : Hid (r = (0, 0)) := by show _ = _; rw [HF.out, Lib.compareInt, if_neg n1, if_neg n2]
      clear HF hc
      go_wp2_with fail
      refine (kN1 W4).mono ?_
      rintro e w5 ⟨rfl, rfl⟩
      go_wp2_with fail
      refine (kN2 W4).mono ?_
      rintro e w6 ⟨rfl, rfl⟩
      go_wp2
      go_ret2
      exact ⟨by rw [HG.out] <;> rfl, hbw4⟩
    · have n1 : ¬ x1 < x2 := by omega
      have HG : Hid (r = (1, 0)) := by show _ = _; rw [HF.out, Lib.compareInt, if_neg n1, if_pos hc]
      clear HF
      go_wp2_with fail
      refine (kN1 W4).mono ?_
      rintro e w5 ⟨rfl, rfl⟩
      go_wp2_with fail
      refine (kN2 W4).mono ?_
      rintro e w6 ⟨rfl, rfl⟩
      go_wp2
      go_ret2
      exact ⟨by rw [HG.out] <;> rfl, hbw4⟩
  · have HF : Hid (r = (cmpB a b, 0)) := by show _ = _; rw [HF0.out, if_neg h4, if_neg h3]
    have e3 : (ty == 3) = false := by simpa using h3
    generalize cmpB a b = cn at *
    clear HF0 h4 h3 hi1 hi2 kC
    go_wp2_with fail
    refine (kO W4).mono ?_
    rintro e w5 ⟨rfl, rfl⟩
    go_wp2
    go_ret2
    exact ⟨by rw [HF.out] <;> rfl, hbw4⟩
end Go.Proofs.YtnikolglippfmaaGreatDoor
