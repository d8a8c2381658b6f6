/- Part 48 of the proof that the statements of identitylaw09 on matching hold at all arguments: the package variables hold what the program lays; nothing else is asked. -/
import Derived.Test.YtmamnmjfbadiiaaGreatDoorFz37
import Derived.Test.YtmamnmjfbadiiaaGreatDoorFz46
import Derived.Test.YtmamnmjfbadiiaaGreatDoorFz47
set_option linter.unusedVariables false
set_option linter.unusedSimpArgs false
set_option maxRecDepth 100000
set_option maxHeartbeats 16000000
/- law07: light, subset, raised. -/
namespace Go.Proofs.YtmamnmjfbadiiaaGreatDoor
open Go.RowKit Go.Sort
open Idn (L B Bs drop_L take_L size_L)
end Go.Proofs.YtmamnmjfbadiiaaGreatDoor
/- law07: raised. -/
namespace Go.Proofs.YtmamnmjfbadiiaaGreatDoor
open Go.RowKit Go.Sort
open Idn (L B Bs drop_L take_L size_L)
theorem PairAt.grown {w w' : World} {p : Nat} {a b : Value} {row : Option Nat} (h : PairAt w p a b) (hg : w.grownBy w' row) (hne : some p ≠ row) (hs : w.heap.size ≤ w'.heap.size) : PairAt w' p a b := by
 obtain ⟨⟨h0, h1⟩, ⟨g0, g1⟩, hl⟩ := h
 exact ⟨⟨grown_cell hg h0 hne, grown_cell hg h1 hne⟩, ⟨grown_frozen hg hl g0 hne, grown_frozen hg hl g1 hne⟩, Nat.lt_of_lt_of_le hl hs⟩
end Go.Proofs.YtmamnmjfbadiiaaGreatDoor
/- identityref02: Int. -/
namespace Go.Proofs.YtmamnmjfbadiiaaGreatDoor
open Go.RowKit Go.Sort
open Idn (L B Bs drop_L take_L size_L)
theorem ddig_step {u : Nat} (h : u ≠ 0) : ∃ x : UInt8, x.toNat = 48 + u % 10 ∧ Lib.decDigits u = (if u / 10 = 0 then [] else Lib.decDigits (u / 10)) ++ [x] := by
 refine ⟨UInt8.ofNat (48 + u % 10), by simp; omega, ?_⟩
 by_cases h1 : u < 10
 ·rw [if_pos (by omega), Lib.decDigits_one h1, Nat.mod_eq_of_lt h1]; rfl
 ·rw [if_neg (by omega), Lib.decDigits, dif_neg h1]
theorem ddig_len {u k : Nat} (h : u < 10 ^ (k + 1)) : (Lib.decDigits u).length ≤ k + 1 := by
  induction k generalizing u with
  | zero => rw [Lib.decDigits_one (by omega)]; simp
  | succ k ih =>
    by_cases h1 : u < 10
    · rw [Lib.decDigits_one h1]; simp
    · rw [Lib.decDigits, dif_neg h1, List.length_append]
      have := ih (u := u / 10) (by rw [Nat.pow_succ] at h; omega)
      simp only [List.length_cons, List.length_nil]; omega
theorem run_one {P : Program} {w : World} (src dst e : TypeId) (hs : P.underlying src = some (.slice e)) (hd : P.underlying dst = some .string) (he : P.underlying e = some (.int .u8)) (x : UInt8) :
  (convert src dst (.slice (some { block := w.heap.size, off := 0 }) 1 1)).run P (w.alloc (.cells #[.int .u8 (x.toNat : Int)] e)) = .ok (.string (B [x])) (w.alloc (.cells #[.int .u8 (x.toNat : Int)] e)) := by
 have h := run_convert_bytes_arg (P := P) (w.alloc (.cells #[.int .u8 (x.toNat : Int)] e)) src e hs he w.heap.size 0 1 1 [(x.toNat : Int)] rfl (fun i hi => by
  have : i = 0 := by simpa using hi
  subst this
  exact World.cell?_alloc_mark w #[.int .u8 (x.toNat : Int)] e (0, 0) 0) dst hd
 rw [h]
 congr 3
 show (⟨_⟩ : ByteArray) = _
 simp [B]
def IntInv (n m : Int) (out : Bs) : Prop := Lib.decDigits n.natAbs = (if m = 0 then [] else Lib.decDigits m.natAbs) ++ out ∧ out.length ≤ 20 ∧ m.natAbs ≤ 9223372036854775808
theorem r_Int_any (n : Int) (h1 : -9223372036854775808 ≤ n) (h2 : n ≤ 9223372036854775807) (w : World) : Calls Tryz.prog 206 #[.int .i64 n] w fun e w' => e = .returned (.string (B (Lib.itoa n))) ∧ Below w.heap.size w w' := by
 generalize hr : Lib.itoa n = r
 have HR : Hid (r = Lib.itoa n) := hr.symm
 clear hr
 by_cases h0 : n = 0
 ·have HF : Hid (r = [48]) := by show _ = _; rw [HR.out, h0]; decide +kernel
  have e0 : (n == 0) = true := by rw [beq_iff_eq]; exact h0
  clear HR h0
  go_enter Tryz.func206, Tryz.ntmps206
  go_wp2
  go_ret
  exact ⟨by rw [HF.out]; rfl, Below.refl _ _⟩
 ·have e0 : (n == 0) = false := by rw [beq_eq_false_iff_ne]; exact h0
  have hlen := ddig_len (u := n.natAbs) (k := 18) (by omega)
  go_enter Tryz.func206, Tryz.ntmps206
  go_wp2
  go_loopw [3, 4] (fun o i wr => ∃ (m : Int) (out : Bs), i = .int .i64 m ∧ o = .string (B out) ∧ Below w.heap.size w wr ∧ -9223372036854775808 ≤ m ∧ m ≤ 9223372036854775807 ∧ Hid (IntInv n m out)) (fun _ i _ => (intOf i).natAbs)
  case atStart => exact ⟨n, [], rfl, rfl, Below.refl _ _, h1, h2, by show IntInv _ _ _; exact ⟨by rw [if_neg h0]; simp, by simp, by omega⟩⟩
  case round =>
   obtain ⟨m, out, rfl, rfl, hb, m1, m2, hI⟩ := hrel
   by_cases hm : m = 0
   ·have em : (m == 0) = true := by rw [beq_iff_eq]; exact hm
    have hfin : Lib.decDigits n.natAbs = out := by have := hI.out.1; rw [if_pos hm] at this; simpa using this
    have hsz : (B out).size ≤ 1000 := by rw [Idn.size_B]; have := hI.out.2.1; omega
    clear hI hm hlen
    rcases Int.lt_or_le n 0 with hn | hn
    ·have HF : Hid (r = 45 :: out) := by show _ = _; rw [HR.out, ← hfin]; unfold Lib.itoa; rw [if_pos hn]
     clear hfin HR
     go_wp2
     go_ret
     exact ⟨by rw [HF.out, show (45 :: out) = [45] ++ out from rfl, ← B_app] <;> rfl, hb⟩
    ·have HF : Hid (r = out) := by show _ = _; rw [HR.out, ← hfin]; unfold Lib.itoa; rw [if_neg (by omega), show n.toNat = n.natAbs by omega]
     have hnI : ¬ n < 0 := by omega
     clear hfin HR
     go_wp2
     go_ret
     exact ⟨by rw [HF.out] <;> rfl, hb⟩
   ·have em : (m == 0) = false := by rw [beq_eq_false_iff_ne]; exact hm
    have hsz : (B out).size ≤ 1000 := by rw [Idn.size_B]; have := hI.out.2.1; omega
    have hcn : (Int.tmod m 10).natAbs = m.natAbs % 10 := by rw [Int.natAbs_tmod]; rfl
    have hdn : (Int.tdiv m 10).natAbs = m.natAbs / 10 := by rw [Int.natAbs_tdiv]; rfl
    obtain ⟨x, hx, hstep⟩ := ddig_step (u := m.natAbs) (by omega)
    obtain ⟨c, hc⟩ : ∃ c : Nat, c = m.natAbs % 10 := ⟨_, rfl⟩
    rw [← hc] at hcn hx
    have hc9 : c ≤ 9 := by omega
    have hxI : (x.toNat : Int) = 48 + (c : Int) := by omega
    have hone := run_one (P := Tryz.prog) (w := wr) 89 9 5 Tryz.underlying89 Tryz.underlying9 Tryz.underlying5 x
    rw [hxI] at hone
    have hx1 : (B [x]).size = 1 := rfl
    have hI2 : Hid (IntInv n (Int.tdiv m 10) (x :: out)) := by
     show IntInv _ _ _
     obtain ⟨i1, i2, i3⟩ := hI.out
     have e : Lib.decDigits n.natAbs = (if Int.tdiv m 10 = 0 then [] else Lib.decDigits (Int.tdiv m 10).natAbs) ++ x :: out := by
      rw [i1, if_neg hm, hstep, hdn, List.append_assoc]
      by_cases h10 : m.natAbs / 10 = 0
      ·rw [if_pos h10, if_pos (by omega)]; rfl
      ·rw [if_neg h10, if_neg (by omega)]; rfl
     refine ⟨e, ?_, by omega⟩
     have := congrArg List.length e
     rw [List.length_append] at this
     omega
    have hmn : Hid (Int.natAbs (Int.tdiv m 10) < m.natAbs) := by show _ < _; omega
    have hm1 : -9223372036854775808 ≤ Int.tdiv m 10 := by omega
    have hm2 : Int.tdiv m 10 ≤ 9223372036854775807 := by omega
    have q4 : IntKind.i64.wrap (Int.tdiv m 10) = Int.tdiv m 10 := IntWalk.i64_in _ ⟨hm1, hm2⟩
    have q5 : IntKind.i64.wrap (48 + (c : Int)) = 48 + (c : Int) := IntWalk.i64_in _ ⟨by omega, by omega⟩
    have q6 : (48 + (c : Int)) % 256 = 48 + (c : Int) := by omega
    by_cases hd : Int.tmod m 10 < 0
    ·have q0 : IntKind.i64.wrap (-(Int.tmod m 10)) = c := by rw [show -(Int.tmod m 10) = (c : Int) by omega]; exact IntWalk.i64_in _ ⟨by omega, by omega⟩
     clear hI hm hlen hcn hdn hstep hc hxI hx
     go_wp2
     go_roundw
     case rel => exact ⟨Int.tdiv m 10, x :: out, rfl, by rw [show x :: out = [x] ++ out from rfl, B_app], hb.alloc (by have := hb.size; omega) _, hm1, hm2, hI2⟩
     case measure => first | exact hmn.out | (simp [intOf]; omega)
    ·have q0 : Int.tmod m 10 = c := by omega
     clear hI hm hlen hcn hdn hstep hc hxI hx
     go_wp2
     go_roundw
     case rel => exact ⟨Int.tdiv m 10, x :: out, rfl, by rw [show x :: out = [x] ++ out from rfl, B_app], hb.alloc (by have := hb.size; omega) _, hm1, hm2, hI2⟩
     case measure => first | exact hmn.out | (simp [intOf]; omega)
end Go.Proofs.YtmamnmjfbadiiaaGreatDoor
/- identityref07: number. -/
namespace Go.Proofs.YtmamnmjfbadiiaaGreatDoor
open Go.RowKit Go.Sort
open Idn (L B Bs drop_L take_L size_L)
theorem drop0 (u : ByteArray) (h : ¬ 0 < u.size) : L u = [] := by have := drop_end u 0 h; simpa using this
theorem r7_number_any (s : ByteArray) (w : World) (hs : s.size ≤ 999999999) : Calls Tryz.prog 165 #[.string s] w fun e w' => e = .returned (.tuple #[.int .i64 (Idn.number2 (L s)).1, .bool (Idn.number2 (L s)).2]) ∧ w = w' := by
  generalize hr : Idn.number2 (L s) = r
  have HR : Hid (r = Idn.number2 (L s)) := hr.symm
  clear hr
  unfold Idn.number2 at HR
  obtain ⟨t, m, hm, hts, hmag, hway⟩ : ∃ (t : ByteArray) (m : Bool), m = Idn.isMinus (L s) ∧ t.size ≤ s.size ∧ L t = Idn.mag2 (L s) ∧
      ((m = true ∧ 0 < s.size ∧ t = s.extract 1 s.size ∧ ∃ h : 0 < s.size, ((s[0].toNat : Int) == 45) = true) ∨ (m = false ∧ t = s ∧ (¬ 0 < s.size ∨ ∃ h : 0 < s.size, ((s[0].toNat : Int) == 45) = false))) := by
    by_cases h0 : 0 < s.size
    · have hd := drop_L s 0 h0
      simp only [List.drop_zero] at hd
      by_cases h45 : s[0] = 45
      · have hm : Idn.isMinus (L s) = true := by rw [hd, h45]; rfl
        refine ⟨s.extract 1 s.size, true, hm.symm, by simp, ?_, .inl ⟨rfl, h0, rfl, h0, byte_is (d := 45) h45⟩⟩
        unfold Idn.mag2
        rw [hm, if_pos rfl, extract_drop, Idn.L_B]
        conv => rhs; rw [hd]
        rfl
      · have hm : Idn.isMinus (L s) = false := by rw [hd]; simpa [Idn.isMinus] using h45
        refine ⟨s, false, hm.symm, Nat.le_refl _, ?_, .inr ⟨rfl, rfl, .inr ⟨h0, byte_not (d := 45) h45⟩⟩⟩
        unfold Idn.mag2
        rw [hm]; rfl
    · have he : L s = [] := by have := drop_end s 0 h0; simpa using this
      refine ⟨s, false, by rw [he]; rfl, Nat.le_refl _, by rw [he]; rfl, .inr ⟨rfl, rfl, .inl h0⟩⟩
  rw [← hmag, ← hm] at HR
  clear hm hmag
  rcases hway with ⟨rfl, h0, rfl, h00, e1⟩ | ⟨rfl, rfl, h0 | ⟨h0, e1⟩⟩
  · go_enter Tryz.func165, Tryz.ntmps165
    go_wp2
    generalize s.extract 1 s.size = t at *
    go_loop [0] (fun x => ∃ u : ByteArray, x = .string u ∧ u.size ≤ t.size ∧ Hid (Idn.stripZ (L u) = Idn.stripZ (L t))) (fun x => vSize x)
    case atStart => exact ⟨t, rfl, Nat.le_refl _, rfl⟩
    case round =>
      obtain ⟨u, rfl, hut, hinv⟩ := hrel
      by_cases h1 : 1 < u.size
      · try (exfalso; omega)
        all_goals
          have h1I : (1 : Int) < (u.size : Int) := by omega
          have h2 := drop_two u 0 h1
          simp only [List.drop_zero] at h2
          by_cases h48 : u[0] = 48
          · have e48 : ((u[0].toNat : Int) == 48) = true := byte_is (d := 48) h48
            have HI : Hid (Idn.stripZ (L (u.extract 1 u.size)) = Idn.stripZ (L t)) := by
              show _ = _
              rw [← hinv.out, extract_drop, Idn.L_B, h2, Idn.stripZ, if_pos (by simpa using h48)]
              try simp
            clear h2 h48 hinv HR
            go_wp2
            go_round
            case rel => exact ⟨u.extract 1 u.size, rfl, by simp; omega, HI⟩
            case measure => simp [vSize]; omega
          · have e48 : ((u[0].toNat : Int) == 48) = false := byte_not (d := 48) h48
            have HE : Hid (L u = Idn.stripZ (L t)) := by show _ = _; rw [← hinv.out, h2, Idn.stripZ, if_neg (by simpa using h48)]
            clear h2 h48 hinv
            by_cases hu0 : 0 < u.size
            case neg =>
              first
              | (exfalso; omega)
              | (have hemp : (u.toList == ([] : List UInt8)) = true := by rw [toList_L, drop0 u hu0]; rfl
                 have HF : Hid (r = (0, false)) := by show _ = _; rw [HR.out, ← HE.out, drop0 u hu0]; rfl
                 clear HR HE
                 go_wp2
                 go_ret2
                 exact ⟨by rw [HF.out] <;> rfl, rfl⟩)
            case pos =>
            have hne : L u = u[0] :: (L u).drop 1 := by have := drop_L u 0 hu0; simpa using this
            have hemp : (u.toList == ([] : List UInt8)) = false := by rw [toList_L, hne]; rfl
            have hdg : (L u).isEmpty = false := by rw [hne]; rfl
            have hhd : (L u).headD 0 = u[0] := by rw [hne]; rfl
            clear hne
            by_cases d1 : (u[0].toNat : Int) < 48
            · have HF : Hid (r = (0, false)) := by
                show _ = _
                have : Idn.digit u[0] = false := by unfold Idn.digit; rw [Bool.and_eq_false_iff, decide_eq_false_iff_not]; left; omega
                rw [HR.out, ← HE.out, hhd, this]; simp
              clear HR HE
              go_wp2
              go_ret2
              exact ⟨by rw [HF.out] <;> rfl, rfl⟩
            · by_cases d2 : (57 : Int) < (u[0].toNat : Int)
              · have HF : Hid (r = (0, false)) := by
                  show _ = _
                  have : Idn.digit u[0] = false := by unfold Idn.digit; rw [Bool.and_eq_false_iff, decide_eq_false_iff_not, decide_eq_false_iff_not]; right; omega
                  rw [HR.out, ← HE.out, hhd, this]; simp
                clear HR HE
                go_wp2
                go_ret2
                exact ⟨by rw [HF.out] <;> rfl, rfl⟩
              · have HG : Hid (r = ((Idn.read2 (Idn.signed true (L u))).1, (Idn.read2 (Idn.signed true (L u))).2 == 0)) := by
                  show _ = _
                  have : Idn.digit u[0] = true := by rw [Idn.digit_iff]; omega
                  rw [HR.out, ← HE.out, hhd, this, hdg]; simp
                clear hdg hhd
                by_cases hz0 : L u = [48]
                · have hz : (u.toList == ([48] : List UInt8)) = true := by rw [toList_L, hz0]; rfl
                  have hQ := fun W => r_ReadInt_any (u) W (by omega)
                  have HF : Hid (r = ((Idn.read2 (L (u))).1, (Idn.read2 (L (u))).2 == 0)) := by
                    show _ = _
                    rw [HG.out]
                    rw [hz0]; rfl
                  generalize Idn.read2 (L (u)) = q at *
                  obtain ⟨n, e⟩ := q
                  dsimp only at hQ HF
                  clear HR HE HG
                  go_wp2_with (go_at_call 205; refine (hQ _).mono ?_; rintro e w1 ⟨rfl, rfl⟩)
                  go_ret2
                  exact ⟨by rw [HF.out] <;> rfl, rfl⟩
                · have hz : (u.toList == ([48] : List UInt8)) = false := by rw [toList_L]; simpa using hz0
                  have hL45 : L ((⟨#[45]⟩ : ByteArray) ++ u) = 45 :: L u := by
                    have : (⟨#[45]⟩ : ByteArray) ++ u = B (45 :: L u) := by rw [show (45 :: L u) = [45] ++ L u from rfl, ← B_app]; rfl
                    rw [this, Idn.L_B]
                  have hsz45 : ((⟨#[45]⟩ : ByteArray) ++ u).size = 1 + u.size := by
                    rw [size_L, hL45, size_L u]; simp; omega
                  have hQ := fun W => r_ReadInt_any ((⟨#[45]⟩ : ByteArray) ++ u) W (by rw [hsz45]; omega)
                  have HF : Hid (r = ((Idn.read2 (L ((⟨#[45]⟩ : ByteArray) ++ u))).1, (Idn.read2 (L ((⟨#[45]⟩ : ByteArray) ++ u))).2 == 0)) := by
                    show _ = _
                    rw [HG.out]
                    rw [hL45, Idn.signed, if_pos (by simpa using hz0)]
                  generalize Idn.read2 (L ((⟨#[45]⟩ : ByteArray) ++ u)) = q at *
                  obtain ⟨n, e⟩ := q
                  dsimp only at hQ HF
                  clear HR HE HG
                  go_wp2_with (go_at_call 205; refine (hQ _).mono ?_; rintro e w1 ⟨rfl, rfl⟩)
                  go_ret2
                  exact ⟨by rw [HF.out] <;> rfl, rfl⟩
      · have h1I : ¬ (1 : Int) < (u.size : Int) := by omega
        have HE : Hid (L u = Idn.stripZ (L t)) := by
          show _ = _
          rw [← hinv.out]
          have : (L u).length ≤ 1 := by rw [← size_L]; omega
          cases hx : L u with
          | nil => rfl
          | cons a l =>
            cases l with
            | nil => rfl
            | cons b l => rw [hx] at this; simp at this
        clear hinv
        by_cases hu0 : 0 < u.size
        case neg =>
          first
          | (exfalso; omega)
          | (have hemp : (u.toList == ([] : List UInt8)) = true := by rw [toList_L, drop0 u hu0]; rfl
             have HF : Hid (r = (0, false)) := by show _ = _; rw [HR.out, ← HE.out, drop0 u hu0]; rfl
             clear HR HE
             go_wp2
             go_ret2
             exact ⟨by rw [HF.out] <;> rfl, rfl⟩)
        case pos =>
        have hne : L u = u[0] :: (L u).drop 1 := by have := drop_L u 0 hu0; simpa using this
        have hemp : (u.toList == ([] : List UInt8)) = false := by rw [toList_L, hne]; rfl
        have hdg : (L u).isEmpty = false := by rw [hne]; rfl
        have hhd : (L u).headD 0 = u[0] := by rw [hne]; rfl
        clear hne
        by_cases d1 : (u[0].toNat : Int) < 48
        · have HF : Hid (r = (0, false)) := by
            show _ = _
            have : Idn.digit u[0] = false := by unfold Idn.digit; rw [Bool.and_eq_false_iff, decide_eq_false_iff_not]; left; omega
            rw [HR.out, ← HE.out, hhd, this]; simp
          clear HR HE
          go_wp2
          go_ret2
          exact ⟨by rw [HF.out] <;> rfl, rfl⟩
        · by_cases d2 : (57 : Int) < (u[0].toNat : Int)
          · have HF : Hid (r = (0, false)) := by
              show _ = _
              have : Idn.digit u[0] = false := by unfold Idn.digit; rw [Bool.and_eq_false_iff, decide_eq_false_iff_not, decide_eq_false_iff_not]; right; omega
              rw [HR.out, ← HE.out, hhd, this]; simp
            clear HR HE
            go_wp2
            go_ret2
            exact ⟨by rw [HF.out] <;> rfl, rfl⟩
          · have HG : Hid (r = ((Idn.read2 (Idn.signed true (L u))).1, (Idn.read2 (Idn.signed true (L u))).2 == 0)) := by
              show _ = _
              have : Idn.digit u[0] = true := by rw [Idn.digit_iff]; omega
              rw [HR.out, ← HE.out, hhd, this, hdg]; simp
            clear hdg hhd
            by_cases hz0 : L u = [48]
            · have hz : (u.toList == ([48] : List UInt8)) = true := by rw [toList_L, hz0]; rfl
              have hQ := fun W => r_ReadInt_any (u) W (by omega)
              have HF : Hid (r = ((Idn.read2 (L (u))).1, (Idn.read2 (L (u))).2 == 0)) := by
                show _ = _
                rw [HG.out]
                rw [hz0]; rfl
              generalize Idn.read2 (L (u)) = q at *
              obtain ⟨n, e⟩ := q
              dsimp only at hQ HF
              clear HR HE HG
              go_wp2_with (go_at_call 205; refine (hQ _).mono ?_; rintro e w1 ⟨rfl, rfl⟩)
              go_ret2
              exact ⟨by rw [HF.out] <;> rfl, rfl⟩
            · have hz : (u.toList == ([48] : List UInt8)) = false := by rw [toList_L]; simpa using hz0
              have hL45 : L ((⟨#[45]⟩ : ByteArray) ++ u) = 45 :: L u := by
                have : (⟨#[45]⟩ : ByteArray) ++ u = B (45 :: L u) := by rw [show (45 :: L u) = [45] ++ L u from rfl, ← B_app]; rfl
                rw [this, Idn.L_B]
              have hsz45 : ((⟨#[45]⟩ : ByteArray) ++ u).size = 1 + u.size := by
                rw [size_L, hL45, size_L u]; simp; omega
              have hQ := fun W => r_ReadInt_any ((⟨#[45]⟩ : ByteArray) ++ u) W (by rw [hsz45]; omega)
              have HF : Hid (r = ((Idn.read2 (L ((⟨#[45]⟩ : ByteArray) ++ u))).1, (Idn.read2 (L ((⟨#[45]⟩ : ByteArray) ++ u))).2 == 0)) := by
                show _ = _
                rw [HG.out]
                rw [hL45, Idn.signed, if_pos (by simpa using hz0)]
              generalize Idn.read2 (L ((⟨#[45]⟩ : ByteArray) ++ u)) = q at *
              obtain ⟨n, e⟩ := q
              dsimp only at hQ HF
              clear HR HE HG
              go_wp2_with (go_at_call 205; refine (hQ _).mono ?_; rintro e w1 ⟨rfl, rfl⟩)
              go_ret2
              exact ⟨by rw [HF.out] <;> rfl, rfl⟩
  all_goals
    go_enter Tryz.func165, Tryz.ntmps165
    go_wp2
    try generalize s = t at hs HR ⊢
    go_loop [0] (fun x => ∃ u : ByteArray, x = .string u ∧ u.size ≤ t.size ∧ Hid (Idn.stripZ (L u) = Idn.stripZ (L t))) (fun x => vSize x)
    case atStart => exact ⟨t, rfl, Nat.le_refl _, rfl⟩
    case round =>
      obtain ⟨u, rfl, hut, hinv⟩ := hrel
      by_cases h1 : 1 < u.size
      · try (exfalso; omega)
        all_goals
          have h1I : (1 : Int) < (u.size : Int) := by omega
          have h2 := drop_two u 0 h1
          simp only [List.drop_zero] at h2
          by_cases h48 : u[0] = 48
          · have e48 : ((u[0].toNat : Int) == 48) = true := byte_is (d := 48) h48
            have HI : Hid (Idn.stripZ (L (u.extract 1 u.size)) = Idn.stripZ (L t)) := by
              show _ = _
              rw [← hinv.out, extract_drop, Idn.L_B, h2, Idn.stripZ, if_pos (by simpa using h48)]
              try simp
            clear h2 h48 hinv HR
            go_wp2
            go_round
            case rel => exact ⟨u.extract 1 u.size, rfl, by simp; omega, HI⟩
            case measure => simp [vSize]; omega
          · have e48 : ((u[0].toNat : Int) == 48) = false := byte_not (d := 48) h48
            have HE : Hid (L u = Idn.stripZ (L t)) := by show _ = _; rw [← hinv.out, h2, Idn.stripZ, if_neg (by simpa using h48)]
            clear h2 h48 hinv
            by_cases hu0 : 0 < u.size
            case neg =>
              first
              | (exfalso; omega)
              | (have hemp : (u.toList == ([] : List UInt8)) = true := by rw [toList_L, drop0 u hu0]; rfl
                 have HF : Hid (r = (0, false)) := by show _ = _; rw [HR.out, ← HE.out, drop0 u hu0]; rfl
                 clear HR HE
                 go_wp2
                 go_ret2
                 exact ⟨by rw [HF.out] <;> rfl, rfl⟩)
            case pos =>
            have hne : L u = u[0] :: (L u).drop 1 := by have := drop_L u 0 hu0; simpa using this
            have hemp : (u.toList == ([] : List UInt8)) = false := by rw [toList_L, hne]; rfl
            have hdg : (L u).isEmpty = false := by rw [hne]; rfl
            have hhd : (L u).headD 0 = u[0] := by rw [hne]; rfl
            clear hne
            by_cases d1 : (u[0].toNat : Int) < 48
            · have HF : Hid (r = (0, false)) := by
                show _ = _
                have : Idn.digit u[0] = false := by unfold Idn.digit; rw [Bool.and_eq_false_iff, decide_eq_false_iff_not]; left; omega
                rw [HR.out, ← HE.out, hhd, this]; simp
              clear HR HE
              go_wp2
              go_ret2
              exact ⟨by rw [HF.out] <;> rfl, rfl⟩
            · by_cases d2 : (57 : Int) < (u[0].toNat : Int)
              · have HF : Hid (r = (0, false)) := by
                  show _ = _
                  have : Idn.digit u[0] = false := by unfold Idn.digit; rw [Bool.and_eq_false_iff, decide_eq_false_iff_not, decide_eq_false_iff_not]; right; omega
                  rw [HR.out, ← HE.out, hhd, this]; simp
                clear HR HE
                go_wp2
                go_ret2
                exact ⟨by rw [HF.out] <;> rfl, rfl⟩
              · have HG : Hid (r = ((Idn.read2 (Idn.signed false (L u))).1, (Idn.read2 (Idn.signed false (L u))).2 == 0)) := by
                  show _ = _
                  have : Idn.digit u[0] = true := by rw [Idn.digit_iff]; omega
                  rw [HR.out, ← HE.out, hhd, this, hdg]; simp
                clear hdg hhd
                have hQ := fun W => r_ReadInt_any (u) W (by omega)
                have HF : Hid (r = ((Idn.read2 (L (u))).1, (Idn.read2 (L (u))).2 == 0)) := by
                  show _ = _
                  rw [HG.out]
                  rw [Idn.signed]; rfl
                generalize Idn.read2 (L (u)) = q at *
                obtain ⟨n, e⟩ := q
                dsimp only at hQ HF
                clear HR HE HG
                go_wp2_with (go_at_call 205; refine (hQ _).mono ?_; rintro e w1 ⟨rfl, rfl⟩)
                go_ret2
                exact ⟨by rw [HF.out] <;> rfl, rfl⟩
      · have h1I : ¬ (1 : Int) < (u.size : Int) := by omega
        have HE : Hid (L u = Idn.stripZ (L t)) := by
          show _ = _
          rw [← hinv.out]
          have : (L u).length ≤ 1 := by rw [← size_L]; omega
          cases hx : L u with
          | nil => rfl
          | cons a l =>
            cases l with
            | nil => rfl
            | cons b l => rw [hx] at this; simp at this
        clear hinv
        by_cases hu0 : 0 < u.size
        case neg =>
          first
          | (exfalso; omega)
          | (have hemp : (u.toList == ([] : List UInt8)) = true := by rw [toList_L, drop0 u hu0]; rfl
             have HF : Hid (r = (0, false)) := by show _ = _; rw [HR.out, ← HE.out, drop0 u hu0]; rfl
             clear HR HE
             go_wp2
             go_ret2
             exact ⟨by rw [HF.out] <;> rfl, rfl⟩)
        case pos =>
        have hne : L u = u[0] :: (L u).drop 1 := by have := drop_L u 0 hu0; simpa using this
        have hemp : (u.toList == ([] : List UInt8)) = false := by rw [toList_L, hne]; rfl
        have hdg : (L u).isEmpty = false := by rw [hne]; rfl
        have hhd : (L u).headD 0 = u[0] := by rw [hne]; rfl
        clear hne
        by_cases d1 : (u[0].toNat : Int) < 48
        · have HF : Hid (r = (0, false)) := by
            show _ = _
            have : Idn.digit u[0] = false := by unfold Idn.digit; rw [Bool.and_eq_false_iff, decide_eq_false_iff_not]; left; omega
            rw [HR.out, ← HE.out, hhd, this]; simp
          clear HR HE
          go_wp2
          go_ret2
          exact ⟨by rw [HF.out] <;> rfl, rfl⟩
        · by_cases d2 : (57 : Int) < (u[0].toNat : Int)
          · have HF : Hid (r = (0, false)) := by
              show _ = _
              have : Idn.digit u[0] = false := by unfold Idn.digit; rw [Bool.and_eq_false_iff, decide_eq_false_iff_not, decide_eq_false_iff_not]; right; omega
              rw [HR.out, ← HE.out, hhd, this]; simp
            clear HR HE
            go_wp2
            go_ret2
            exact ⟨by rw [HF.out] <;> rfl, rfl⟩
          · have HG : Hid (r = ((Idn.read2 (Idn.signed false (L u))).1, (Idn.read2 (Idn.signed false (L u))).2 == 0)) := by
              show _ = _
              have : Idn.digit u[0] = true := by rw [Idn.digit_iff]; omega
              rw [HR.out, ← HE.out, hhd, this, hdg]; simp
            clear hdg hhd
            have hQ := fun W => r_ReadInt_any (u) W (by omega)
            have HF : Hid (r = ((Idn.read2 (L (u))).1, (Idn.read2 (L (u))).2 == 0)) := by
              show _ = _
              rw [HG.out]
              rw [Idn.signed]; rfl
            generalize Idn.read2 (L (u)) = q at *
            obtain ⟨n, e⟩ := q
            dsimp only at hQ HF
            clear HR HE HG
            go_wp2_with (go_at_call 205; refine (hQ _).mono ?_; rintro e w1 ⟨rfl, rfl⟩)
            go_ret2
            exact ⟨by rw [HF.out] <;> rfl, rfl⟩
end Go.Proofs.YtmamnmjfbadiiaaGreatDoor
/- identityref07: form. -/
namespace Go.Proofs.YtmamnmjfbadiiaaGreatDoor
open Go.RowKit Go.Sort
open Idn (L B Bs drop_L take_L size_L)
theorem read2_range (l : Bs) : -9223372036854775808 ≤ (Idn.read2 l).1 ∧ (Idn.read2 l).1 ≤ 9223372036854775807 := by
 unfold Idn.read2
 repeat' split
 all_goals (try dsimp only)
 all_goals omega
theorem number2_range (l : Bs) : -9223372036854775808 ≤ (Idn.number2 l).1 ∧ (Idn.number2 l).1 ≤ 9223372036854775807 := by
 unfold Idn.number2
 split
 ·exact ⟨by decide, by decide⟩
 ·exact read2_range _
theorem r7_form_any (x : Int) (h1 : 1 ≤ x) (h5 : x ≤ 5) (v : ByteArray) (w : World) (hs : v.size ≤ 999999999) :
  Calls Tryz.prog 167 #[.int .i64 x, .string v] w fun e w' => e = .returned (.tuple #[.string (B (form2 x (L v)).1), .bool (form2 x (L v)).2]) ∧ Below w.heap.size w w' := by
 have hFo := fun W => r_fold_any v W (by omega)
 have hNu := fun W => r7_number_any v W hs
 have hCl := fun W => r5_Clean_any v W (by omega)
 have hLo := fun W => r_lower_any v W (by omega)
 obtain ⟨n1, n2⟩ := number2_range (L v)
 generalize hr : form2 x (L v) = r
 have HR : Hid (r = form2 x (L v)) := hr.symm
 clear hr
 unfold form2 at HR
 have hx : x = 1 ∨ x = 2 ∨ x = 3 ∨ x = 4 ∨ x = 5 := by omega
 clear h1 h5
 rcases hx with rfl | rfl | rfl | rfl | rfl
 ·have HF : Hid (r = (Idn.fold (L v), true)) := HR.out
  clear HR hNu hCl hLo
  go_enter Tryz.func167, Tryz.ntmps167
  go_wp2_with fail
  refine (hFo _).mono ?_
  rintro e w1 ⟨rfl, hb1⟩
  go_wp2
  go_ret2
  exact ⟨by rw [HF.out] <;> rfl, hb1⟩
 ·have HF : Hid (r = (L v, true)) := HR.out
  clear HR hNu hCl hLo hFo
  go_enter Tryz.func167, Tryz.ntmps167
  go_wp2
  go_ret2
  exact ⟨by rw [HF.out] <;> rfl, Below.refl _ _⟩
 ·have HF : Hid (r = (Lib.itoa (Idn.number2 (L v)).1, (Idn.number2 (L v)).2)) := HR.out
  have hI := fun W => r_Int_any (Idn.number2 (L v)).1 n1 n2 W
  generalize Idn.number2 (L v) = q at *
  obtain ⟨n, ok⟩ := q
  dsimp only at *
  clear HR hCl hLo hFo
  go_enter Tryz.func167, Tryz.ntmps167
  go_wp2_with fail
  refine (hNu _).mono ?_
  rintro e w1 ⟨rfl, rfl⟩
  go_wp2_with fail
  refine (hI _).mono ?_
  rintro e w1 ⟨rfl, hb1⟩
  go_wp2
  go_ret2
  exact ⟨by rw [HF.out] <;> rfl, hb1⟩
 ·have HF : Hid (r = ((Idn.cleanN (L v)).1, (Idn.cleanN (L v)).2 == 0)) := HR.out
  generalize Idn.cleanN (L v) = q at *
  obtain ⟨t, x⟩ := q
  dsimp only at *
  clear HR hNu hLo hFo
  go_enter Tryz.func167, Tryz.ntmps167
  go_wp2_with fail
  refine (hCl _).mono ?_
  rintro e w1 ⟨rfl, hb1⟩
  go_wp2
  go_ret2
  exact ⟨by rw [HF.out] <;> rfl, hb1⟩
 ·have HF : Hid (r = if Idn.lower (L v) = tTrue then ([84, 82, 85, 69], true) else ([70, 65, 76, 83, 69], Idn.lower (L v) == tFalse)) := HR.out
  have hway : (((B (Idn.lower (L v))).toList == ([116, 114, 117, 101] : List UInt8)) = true ∧ Hid (r = ([84, 82, 85, 69], true))) ∨ (((B (Idn.lower (L v))).toList == ([116, 114, 117, 101] : List UInt8)) = false ∧ ∃ b : Bool, ((B (Idn.lower (L v))).toList == ([102, 97, 108, 115, 101] : List UInt8)) = b ∧ Hid (r = ([70, 65, 76, 83, 69], b))) := by
   by_cases h : Idn.lower (L v) = tTrue
   ·exact .inl ⟨by rw [toList_L, Idn.L_B, h]; rfl, by show _ = _; rw [HF.out, if_pos h]⟩
   ·exact .inr ⟨by rw [toList_L, Idn.L_B, beq_eq_false_iff_ne]; exact h, Idn.lower (L v) == tFalse, by rw [toList_L, Idn.L_B]; rfl, by show _ = _; rw [HF.out, if_neg h]⟩
  clear HF HR hNu hCl hFo
  generalize B (Idn.lower (L v)) = t at *
  rcases hway with ⟨z1, HG⟩ | ⟨z1, b, z2, HG⟩
  ·go_enter Tryz.func167, Tryz.ntmps167
   go_wp2_with fail
   refine (hLo _).mono ?_
   rintro e w1 ⟨rfl, hb1⟩
   go_wp2
   go_ret2
   exact ⟨by rw [HG.out] <;> rfl, hb1⟩
  ·go_enter Tryz.func167, Tryz.ntmps167
   go_wp2_with fail
   refine (hLo _).mono ?_
   rintro e w1 ⟨rfl, hb1⟩
   go_wp2_with fail
   refine (hLo _).mono ?_
   rintro e w2 ⟨rfl, hb2⟩
   go_wp2
   go_ret2
   exact ⟨by rw [HG.out] <;> rfl, hb1.trans (hb2.mono hb1.size)⟩
end Go.Proofs.YtmamnmjfbadiiaaGreatDoor
/- identityref07: Normal, Compare. -/
namespace Go.Proofs.YtmamnmjfbadiiaaGreatDoor
open Go.RowKit Go.Sort
open Idn (L B Bs drop_L take_L size_L)
theorem r_Normal_any (u : Value) (s : Idn.Sch) (n v : ByteArray) (w : World) (hu : SchV w w.heap.size u s) (hs : SSm s) (hn : n.size ≤ 1000000000) (hv : v.size ≤ 100000000) :
  Calls Tryz.prog 122 #[u, .string n, .string v] w fun e w' => e = .returned (.tuple #[.string (B (sNorm s (L n) (L v)).1), .int .i64 (sNorm s (L n) (L v)).2]) ∧ Below w.heap.size w w' := by
 have hT := fun W (hW : Below w.heap.size w W) => r_type_any u s n W (SchV.mono (SchV.keep hu hW) hW.size) hs hn
 have hC1 := fun W => r_clean_any v W (by omega)
 obtain ⟨a, b, rfl, hT0, hC0⟩ := hu
 obtain ⟨A, ca, rfl, hca⟩ := SlV.shape hT0
 obtain ⟨A', cb, rfl, hcb⟩ := SlV.shape hC0
 clear hT0 hC0
 have hsy := fun h => syn_range (s := s) (n := L n) h
 rw [← rNorm_eq]
 generalize hr : rNorm s (L n) (L v) = r
 have HR : Hid (r = rNorm s (L n) (L v)) := hr.symm
 clear hr
 unfold rNorm at HR
 generalize tyLook (sound s) (L n) = tl at *
 obtain ⟨⟨tn, ty, ts⟩, ok⟩ := tl
 unfold tyV at hT
 dsimp only [sv] at *
 cases ok
 ·have HF : Hid (r = ([], 6)) := by show _ = _; rw [HR.out, if_pos rfl]
  clear HR hsy hC1
  go_enter Tryz.func122, Tryz.ntmps122
  go_wp2_with fail
  with_reducible refine gen1 (R := fun W => Calls Tryz.prog 84 _ W _) ?_
  intro W hbW hszW _ _
  refine (hT W hbW).mono ?_
  rintro e w1 ⟨rfl, hb1⟩
  have hbw1 := hbW.trans (hb1.mono hbW.size)
  clear hT
  go_wp2
  go_ret2
  exact ⟨by rw [HF.out] <;> rfl, hbw1.alloc hbw1.size _⟩
 ·obtain ⟨y1, y5⟩ := hsy rfl
  have hFm := fun W => r7_form_any ty y1 y5 v W (by omega)
  have hF2 := form2_eq y1 y5 (L v)
  have hlen := length_norm ty (L v) (by rw [← size_L]; omega)
  have hfl : (form2 ty (L v)).2 = true → (form2 ty (L v)).1.length ≤ 1000000000 := fun h => by rw [hF2.2 (by rw [← hF2.1]; exact h)]; exact hlen
  clear hF2 hlen hsy
  generalize form2 ty (L v) = f at *
  obtain ⟨f1, f2⟩ := f
  dsimp only at *
  cases hcl : Idn.clean (L v)
  ·rw [hcl] at hC1 HR
   have HF : Hid (r = ([], 8)) := by show _ = _; rw [HR.out, if_neg (by decide), if_pos rfl]
   clear HR hfl hFm hcl
   go_enter Tryz.func122, Tryz.ntmps122
   go_wp2_with fail
   with_reducible refine gen1 (R := fun W => Calls Tryz.prog 84 _ W _) ?_
   intro W hbW hszW _ _
   refine (hT W hbW).mono ?_
   rintro e w1 ⟨rfl, hb1⟩
   have hbw1 := hbW.trans (hb1.mono hbW.size)
   clear hT hszW
   go_upto_region 2 with fail
   with_reducible refine gen1 (R := fun W => Code.wp Tryz.prog _ _ _ W) ?_
   intro W4 hbW4 hszW4 hc4 _
   have p1 : W4.cell? ⟨w1.heap.size, 1, none⟩ = some (.int .i64 ty) := hc4 1 _ rfl
   have hbw4 := hbw1.trans (hbW4.mono hbw1.size)
   clear hc4 hszW4
   go_wp2_with fail
   refine (hC1 W4).mono ?_
   rintro e w5 ⟨rfl, rfl⟩
   clear hC1
   go_wp2
   go_ret2
   exact ⟨by rw [HF.out] <;> rfl, hbw4⟩
  ·rw [hcl] at hC1 HR
   clear hcl
   cases f2
   ·have HF : Hid (r = ([], 8)) := by show _ = _; rw [HR.out, if_neg (by decide), if_neg (by decide), if_pos (by simp)]
    clear HR hfl
    go_enter Tryz.func122, Tryz.ntmps122
    go_wp2_with fail
    with_reducible refine gen1 (R := fun W => Calls Tryz.prog 84 _ W _) ?_
    intro W hbW hszW _ _
    refine (hT W hbW).mono ?_
    rintro e w1 ⟨rfl, hb1⟩
    have hbw1 := hbW.trans (hb1.mono hbW.size)
    clear hT hszW
    go_upto_region 2 with fail
    with_reducible refine gen1 (R := fun W => Code.wp Tryz.prog _ _ _ W) ?_
    intro W4 hbW4 hszW4 hc4 _
    have p1 : W4.cell? ⟨w1.heap.size, 1, none⟩ = some (.int .i64 ty) := hc4 1 _ rfl
    have hbw4 := hbw1.trans (hbW4.mono hbw1.size)
    clear hc4 hszW4
    go_wp2_with fail
    refine (hC1 W4).mono ?_
    rintro e w5 ⟨rfl, rfl⟩
    clear hC1
    go_wp2_with fail
    refine (hFm W4).mono ?_
    rintro e w6 ⟨rfl, hb6⟩
    have hbw6 := hbw4.trans (hb6.mono hbw4.size)
    clear hFm
    go_wp2
    go_ret2
    exact ⟨by rw [HF.out] <;> rfl, hbw6⟩
   ·have hC2 := fun W => r_clean_any (B f1) W (by have := hfl rfl; rw [Idn.size_B]; omega)
    rw [Idn.L_B] at hC2
    have HF : Hid (r = if Idn.clean f1 = false then ([], 8) else (f1, 0)) := by
     show _ = _
     rw [HR.out, if_neg (by decide), if_neg (by decide)]
     cases Idn.clean f1 <;> rfl
    clear HR hfl
    cases hcf : Idn.clean f1
    all_goals
     rw [hcf] at hC2 HF
     clear hcf
     go_enter Tryz.func122, Tryz.ntmps122
     go_wp2_with fail
     with_reducible refine gen1 (R := fun W => Calls Tryz.prog 84 _ W _) ?_
     intro W hbW hszW _ _
     refine (hT W hbW).mono ?_
     rintro e w1 ⟨rfl, hb1⟩
     have hbw1 := hbW.trans (hb1.mono hbW.size)
     clear hT hszW
     go_upto_region 2 with fail
     with_reducible refine gen1 (R := fun W => Code.wp Tryz.prog _ _ _ W) ?_
     intro W4 hbW4 hszW4 hc4 _
     have p1 : W4.cell? ⟨w1.heap.size, 1, none⟩ = some (.int .i64 ty) := hc4 1 _ rfl
     have hbw4 := hbw1.trans (hbW4.mono hbw1.size)
     clear hc4 hszW4
     go_wp2_with fail
     refine (hC1 W4).mono ?_
     rintro e w5 ⟨rfl, rfl⟩
     clear hC1
     go_wp2_with fail
     refine (hFm W4).mono ?_
     rintro e w6 ⟨rfl, hb6⟩
     have hbw6 := hbw4.trans (hb6.mono hbw4.size)
     clear hFm
     go_wp2_with fail
     refine (hC2 _).mono ?_
     rintro e w7 ⟨rfl, rfl⟩
     go_wp2
     go_ret2
     exact ⟨by rw [HF.out] <;> rfl, hbw6⟩
theorem sNorm_len (s : Idn.Sch) (n v : Bs) (h : v.length ≤ 100000000) : (sNorm s n v).1.length ≤ 1000000000 := kNorm_len (sound s) n v h
theorem sNorm_int {s : Idn.Sch} {n v : Bs} (h : (sNorm s n v).2 = 0) (hx : (tyLook (sound s) n).1.syn = 3) : (sNorm s n v).1.length ≤ 21 := by
 obtain ⟨_, h2, _⟩ := sNorm_ok (Prod.ext rfl h : sNorm s n v = ((sNorm s n v).1, 0))
 rw [hx] at h2
 obtain ⟨h3, _⟩ := normV_parts h2
 have h4 : Idn.integer v = ((sNorm s n v).1, true) := h3
 obtain ⟨k, k1, k2, k3⟩ := integer_form (v := v) (by rw [h4])
 rw [h4] at k3
 dsimp only at k3
 rw [k3]
 exact Lib.itoa_length_le _ k1 k2
theorem r_Compare_any (u : Value) (s : Idn.Sch) (n v1 v2 : ByteArray) (w : World) (hu : SchV w w.heap.size u s) (hs : SSm s) (hn : n.size ≤ 1000000000) (hv1 : v1.size ≤ 100000000) (hv2 : v2.size ≤ 100000000) :
  Calls Tryz.prog 121 #[u, .string n, .string v1, .string v2] w fun e w' => e = .returned (.tuple #[.int .i64 (sComp s (L n) (L v1) (L v2)).1, .int .i64 (sComp s (L n) (L v1) (L v2)).2]) ∧ Below w.heap.size w w' := by
 have hV := fun W (hW : Below w.heap.size w W) => SchV.mono (SchV.keep hu hW) hW.size
 have k1 := fun W (hW : Below w.heap.size w W) => r_Normal_any u s n v1 W (hV W hW) hs hn hv1
 have k2 := fun W (hW : Below w.heap.size w W) => r_Normal_any u s n v2 W (hV W hW) hs hn hv2
 have kT := fun W (hW : Below w.heap.size w W) => r_type_any u s n W (hV W hW) hs hn
 obtain ⟨a, b, rfl, hT0, hC0⟩ := hu
 obtain ⟨A, ca, rfl, hca⟩ := SlV.shape hT0
 obtain ⟨A', cb, rfl, hcb⟩ := SlV.shape hC0
 clear hT0 hC0 hV
 have hl1 := sNorm_len s (L n) (L v1) (by have := size_L v1; omega)
 have hl2 := sNorm_len s (L n) (L v2) (by have := size_L v2; omega)
 have hi1 := fun h1 h2 => sNorm_int (s := s) (n := L n) (v := L v1) h1 h2
 have hi2 := fun h1 h2 => sNorm_int (s := s) (n := L n) (v := L v2) h1 h2
 rw [← rComp_eq]
 generalize hr : rComp s (L n) (L v1) (L v2) = r
 have HR : Hid (r = rComp s (L n) (L v1) (L v2)) := hr.symm
 clear hr
 unfold rComp at HR
 generalize sNorm s (L n) (L v1) = na at *
 generalize sNorm s (L n) (L v2) = nb at *
 generalize tyLook (sound s) (L n) = tl at *
 obtain ⟨a, ea⟩ := na
 obtain ⟨b, eb⟩ := nb
 obtain ⟨⟨tn, ty, ts⟩, ok⟩ := tl
 unfold tyV at kT
 dsimp only [sv] at *
 by_cases hea : ea = 0
 case neg =>
  have HF : Hid (r = (0, ea)) := by show _ = _; rw [HR.out, if_pos hea]
  have e1 : (ea == 0) = false := by simpa using hea
  have e2 : (ea != 0) = true := by simpa using hea
  clear HR hea hi1 hi2 k2 kT
  go_enter Tryz.func121, Tryz.ntmps121
  go_wp2_with fail
  with_reducible refine gen1 (R := fun W => Calls Tryz.prog 122 _ W _) ?_
  intro W hbW hszW _ _
  refine (k1 W hbW).mono ?_
  rintro e w1 ⟨rfl, hb1⟩
  have hbw1 := hbW.trans (hb1.mono hbW.size)
  clear k1
  go_wp2
  go_ret2
  exact ⟨by rw [HF.out] <;> rfl, hbw1⟩
 subst hea
 by_cases heb : eb = 0
 case neg =>
  have HF : Hid (r = (0, eb)) := by show _ = _; rw [HR.out, if_neg (by decide), if_pos heb]
  have e1 : (eb == 0) = false := by simpa using heb
  have e2 : (eb != 0) = true := by simpa using heb
  clear HR heb hi1 hi2 kT
  go_enter Tryz.func121, Tryz.ntmps121
  go_wp2_with fail
  with_reducible refine gen1 (R := fun W => Calls Tryz.prog 122 _ W _) ?_
  intro W hbW hszW hc0 _
  have q0 := hc0 0 _ rfl
  have q1 := hc0 1 _ rfl
  refine (k1 W hbW).mono ?_
  rintro e w1 ⟨rfl, hb1⟩
  replace q0 := cell_later hb1 q0
  replace q1 := cell_later hb1 q1
  have hbw1 := hbW.trans (hb1.mono hbW.size)
  clear k1 hc0
  go_wp2_with fail
  refine (k2 w1 hbw1).mono ?_
  rintro e w2 ⟨rfl, hb2⟩
  have hbw2 := hbw1.trans (hb2.mono hbw1.size)
  clear k2
  go_wp2
  go_ret2
  exact ⟨by rw [HF.out] <;> rfl, hbw2⟩
 subst heb
 have HF0 : Hid (r = if ty = 4 then (cmpNm a b, 0) else if ty = 3 then (Lib.compareInt (Idn.number2 a).1 (Idn.number2 b).1, 0) else (cmpB a b, 0)) := by show _ = _; rw [HR.out, if_neg (by decide), if_neg (by decide)]
 have kC := fun W => r5_Compare_any (B a) (B b) W (by rw [Idn.size_B]; omega) (by rw [Idn.size_B]; omega)
 have kO := fun W => r_Order_any (B a) (B b) W
 rw [Idn.L_B, Idn.L_B] at kC kO
 clear HR
 go_enter Tryz.func121, Tryz.ntmps121
 go_wp2_with fail
 with_reducible refine gen1 (R := fun W => Calls Tryz.prog 122 _ W _) ?_
 intro W hbW hszW hc0 _
 have q0 := hc0 0 _ rfl
 have q1 := hc0 1 _ rfl
 refine (k1 W hbW).mono ?_
 rintro e w1 ⟨rfl, hb1⟩
 replace q0 := cell_later hb1 q0
 replace q1 := cell_later hb1 q1
 have hbw1 := hbW.trans (hb1.mono hbW.size)
 clear k1 hc0
 go_wp2_with fail
 refine (k2 w1 hbw1).mono ?_
 rintro e w2 ⟨rfl, hb2⟩
 replace q0 := cell_later hb2 q0
 replace q1 := cell_later hb2 q1
 have hbw2 := hbw1.trans (hb2.mono hbw1.size)
 clear k2
 go_wp2_with fail
 refine (kT w2 hbw2).mono ?_
 rintro e w3 ⟨rfl, hb3⟩
 have hbw3 := hbw2.trans (hb3.mono hbw2.size)
 clear kT q0 q1 hb1 hb2 hb3
 go_upto_region 8 with fail
 with_reducible refine gen1 (R := fun W => Code.wp Tryz.prog _ _ _ W) ?_
 intro W4 hbW4 hszW4 hc4 _
 have p1 : W4.cell? ⟨w3.heap.size, 1, none⟩ = some (.int .i64 ty) := hc4 1 _ rfl
 have hbw4 := hbw3.trans (hbW4.mono hbw3.size)
 clear hc4 hszW4 hbW4
 by_cases h4 : ty = 4
 ·have HF : Hid (r = (cmpNm a b, 0)) := by show _ = _; rw [HF0.out, if_pos h4]
  have e4 : (ty == 4) = true := by simpa using h4
  generalize cmpNm a b = cn at *
  clear HF0 h4 hi1 hi2 kO
  go_wp2_with fail
  refine (kC W4).mono ?_
  rintro e w5 ⟨rfl, hb5⟩
  go_wp2
  go_ret2
  exact ⟨by rw [HF.out] <;> rfl, hbw4.trans (hb5.mono hbw4.size)⟩
 have e4 : (ty == 4) = false := by simpa using h4
 by_cases h3 : ty = 3
 ·have HF : Hid (r = (Lib.compareInt (Idn.number2 a).1 (Idn.number2 b).1, 0)) := by show _ = _; rw [HF0.out, if_neg h4, if_pos h3]
  have e3 : (ty == 3) = true := by simpa using h3
  have h21 := hi1 (by first | rfl | trivial) h3
  have h22 := hi2 (by first | rfl | trivial) h3
  have kN1 := fun W => r7_number_any (B a) W (by rw [Idn.size_B]; omega)
  have kN2 := fun W => r7_number_any (B b) W (by rw [Idn.size_B]; omega)
  rw [Idn.L_B] at kN1 kN2
  generalize Idn.number2 a = x1 at *
  generalize Idn.number2 b = x2 at *
  obtain ⟨x1, y1⟩ := x1
  obtain ⟨x2, y2⟩ := x2
  dsimp only at kN1 kN2 HF
  clear HF0 h4 h3 hi1 hi2 kO kC
  rcases Int.lt_trichotomy x1 x2 with hc | hc | hc
  ·have HG : Hid (r = (-1, 0)) := by show _ = _; rw [HF.out, Lib.compareInt, if_pos hc]
   clear HF
   go_wp2_with fail
   refine (kN1 W4).mono ?_
   rintro e w5 ⟨rfl, rfl⟩
   go_wp2_with fail
   refine (kN2 W4).mono ?_
   rintro e w6 ⟨rfl, rfl⟩
   go_wp2
   go_ret2
   exact ⟨by rw [HG.out] <;> rfl, hbw4⟩
  ·have n1 : ¬ x1 < x2 := by omega
   have n2 : ¬ x2 < x1 := by omega
   have HG : Hid (r = (0, 0)) := by show _ = _; rw [HF.out, Lib.compareInt, if_neg n1, if_neg n2]
   clear HF hc
   go_wp2_with fail
   refine (kN1 W4).mono ?_
   rintro e w5 ⟨rfl, rfl⟩
   go_wp2_with fail
   refine (kN2 W4).mono ?_
   rintro e w6 ⟨rfl, rfl⟩
   go_wp2
   go_ret2
   exact ⟨by rw [HG.out] <;> rfl, hbw4⟩
  ·have n1 : ¬ x1 < x2 := by omega
   have HG : Hid (r = (1, 0)) := by show _ = _; rw [HF.out, Lib.compareInt, if_neg n1, if_pos hc]
   clear HF
   go_wp2_with fail
   refine (kN1 W4).mono ?_
   rintro e w5 ⟨rfl, rfl⟩
   go_wp2_with fail
   refine (kN2 W4).mono ?_
   rintro e w6 ⟨rfl, rfl⟩
   go_wp2
   go_ret2
   exact ⟨by rw [HG.out] <;> rfl, hbw4⟩
 ·have HF : Hid (r = (cmpB a b, 0)) := by show _ = _; rw [HF0.out, if_neg h4, if_neg h3]
  have e3 : (ty == 3) = false := by simpa using h3
  generalize cmpB a b = cn at *
  clear HF0 h4 h3 hi1 hi2 kC
  go_wp2_with fail
  refine (kO W4).mono ?_
  rintro e w5 ⟨rfl, rfl⟩
  go_wp2
  go_ret2
  exact ⟨by rw [HF.out] <;> rfl, hbw4⟩
end Go.Proofs.YtmamnmjfbadiiaaGreatDoor
