/- Part 46 of the proof that the statements of identitylaw09 on matching hold at all arguments: the package variables hold what the program lays; nothing else is asked. -/
import Derived.Test.YtmamnmjfbadiiaaGreatDoorFz26
import Derived.Test.YtmamnmjfbadiiaaGreatDoorFz34
set_option linter.unusedVariables false
set_option linter.unusedSimpArgs false
set_option maxRecDepth 100000
set_option maxHeartbeats 16000000
/- Plain law: Normal and Compare by the reference are the layer's. -/
namespace Go.Proofs.YtmamnmjfbadiiaaGreatDoor
open Go.RowKit Go.Sort
open Idn (L B Bs)
def tTrue : Bs := [116, 114, 117, 101]
def tFalse : Bs := [102, 97, 108, 115, 101]
def form2 (x : Int) (v : Bs) : Bs × Bool :=
 if x = 1 then (Idn.fold v, true) else if x = 2 then (v, true) else if x = 3 then (Lib.itoa (Idn.number2 v).1, (Idn.number2 v).2)
 else if x = 4 then ((Idn.cleanN v).1, (Idn.cleanN v).2 == 0) else if Idn.lower v = tTrue then ([84, 82, 85, 69], true) else ([70, 65, 76, 83, 69], Idn.lower v == tFalse)
theorem form2_eq {x : Int} (h1 : 1 ≤ x) (h5 : x ≤ 5) (v : Bs) : (form2 x v).2 = (Idn.normSyn x v).2 ∧ ((Idn.normSyn x v).2 = true → (form2 x v).1 = (Idn.normSyn x v).1) := by
 have hx : x = 1 ∨ x = 2 ∨ x = 3 ∨ x = 4 ∨ x = 5 := by omega
 unfold form2 Idn.normSyn
 rcases hx with rfl | rfl | rfl | rfl | rfl
 ·exact ⟨rfl, fun _ => rfl⟩
 ·exact ⟨rfl, fun _ => rfl⟩
 ·exact Idn.number_eq v
 ·exact ⟨rfl, fun _ => rfl⟩
 ·simp only [show ¬ (5 : Int) = 1 by decide, show ¬ (5 : Int) = 2 by decide, show ¬ (5 : Int) = 3 by decide, show ¬ (5 : Int) = 4 by decide, if_false, if_true]
  unfold Idn.truth tTrue tFalse
  by_cases ht : Idn.lower v = [116, 114, 117, 101]
  ·rw [if_pos ht, ht]; exact ⟨rfl, fun _ => up_true.symm⟩
  ·rw [if_neg ht]
   have e : (Idn.lower v == [116, 114, 117, 101]) = false := by simpa using ht
   dsimp only
   rw [e, Bool.false_or]
   refine ⟨rfl, fun h => ?_⟩
   have h2 : Idn.lower v = [102, 97, 108, 115, 101] := by simpa using h
   rw [h2]; exact up_false.symm
theorem syn_range {s : Idn.Sch} {n : Bs} (h : (tyLook (sound s) n).2 = true) : 1 ≤ (tyLook (sound s) n).1.syn ∧ (tyLook (sound s) n).1.syn ≤ 5 := by
  unfold tyLook at h ⊢
  cases hx : Idn.ixT (sound s).types n with
  | none => rw [hx] at h; cases h
  | some k =>
    rw [hx] at h
    dsimp only at h ⊢
    cases hy : (sound s).types[k]? with
    | none => rw [hy] at h; cases h
    | some t =>
      dsimp only
      have hm := List.mem_of_getElem? hy
      unfold sound at hm
      by_cases hs : Idn.sCheck s = 0
      · rw [if_pos hs] at hm
        exact ((Idn.sCheck_ok hs).1 t hm).2
      · rw [if_neg hs] at hm; simp at hm
def rNorm (s : Idn.Sch) (n v : Bs) : Bs × Int :=
 if (tyLook (sound s) n).2 = false then ([], 6)
 else if Idn.clean v = false then ([], 8)
 else if (!(form2 (tyLook (sound s) n).1.syn v).2 || !Idn.clean (form2 (tyLook (sound s) n).1.syn v).1) = true then ([], 8)
 else ((form2 (tyLook (sound s) n).1.syn v).1, 0)
theorem rNorm_eq (s : Idn.Sch) (n v : Bs) : rNorm s n v = sNorm s n v := by
 unfold rNorm sNorm kNorm
 cases hok : (tyLook (sound s) n).2
 ·simp
 ·obtain ⟨h1, h5⟩ := syn_range hok
  obtain ⟨e1, e2⟩ := form2_eq h1 h5 v
  generalize (tyLook (sound s) n).1.syn = x at *
  unfold Idn.normV
  generalize form2 x v = f at *
  generalize Idn.normSyn x v = g at *
  obtain ⟨f1, f2⟩ := f
  obtain ⟨g1, g2⟩ := g
  dsimp only at e1 e2 ⊢
  subst e1
  cases f2
  ·cases Idn.clean v <;> simp
  ·have := e2 rfl
   subst this
   cases Idn.clean v <;> cases Idn.clean f1 <;> simp
theorem number_itoa {n : Int} (h1 : -9223372036854775808 ≤ n) (h2 : n ≤ 9223372036854775807) : (Idn.number2 (Lib.itoa n)).1 = n := by
  obtain ⟨a1, a2, a3⟩ := read_itoa h1 h2
  have hd := Idn.dig_val n.natAbs
  have hz : Idn.stripZ (Lib.decDigits n.natAbs) = Lib.decDigits n.natAbs := by
    rw [Idn.stripZ_D _ hd.2.2.1 hd.2.1]
    by_cases h0 : n.natAbs = 0
    · rw [h0, Lib.decDigits_one (by decide)]; rfl
    · have hh := hd.2.2.2 (by omega)
      have e : Idn.stripD (Lib.decDigits n.natAbs) = Lib.decDigits n.natAbs := by
        cases hx : Lib.decDigits n.natAbs with
        | nil => rfl
        | cons c r =>
          rw [hx] at hh
          have hc : (c == 48) = false := by simpa using hh
          unfold Idn.stripD
          rw [List.dropWhile_cons, hc]; rfl
      rw [e]
      cases hx : Lib.decDigits n.natAbs with
      | nil => exact absurd hx hd.2.2.1
      | cons c r => rfl
  have hdig : Idn.digit ((Lib.decDigits n.natAbs).headD 0) = true := Idn.all_head hd.2.2.1 hd.2.1
  have hie : (Lib.decDigits n.natAbs).isEmpty = false := by cases hx : Lib.decDigits n.natAbs with | nil => exact absurd hx hd.2.2.1 | cons _ _ => rfl
  unfold Idn.number2
  rw [a2, a3, hz, hdig, hie]
  have hs : Idn.signed (decide (n < 0)) (Lib.decDigits n.natAbs) = Lib.itoa n := by
    unfold Idn.signed
    have hm : Lib.itoa n = if Idn.isMinus (Lib.itoa n) then 45 :: Idn.mag2 (Lib.itoa n) else Idn.mag2 (Lib.itoa n) := by
      unfold Idn.mag2
      cases hx : Lib.itoa n with
      | nil => rfl
      | cons c r =>
        by_cases hc : c = 45
        · subst hc; rfl
        · have : Idn.isMinus (c :: r) = false := by simpa [Idn.isMinus] using hc
          rw [this]; rfl
    rw [hm, a2, a3]
    by_cases hn : n < 0
    · have hh := hd.2.2.2 (by omega)
      have hne : (Lib.decDigits n.natAbs == [48]) = false := by
        rw [beq_eq_false_iff_ne]; intro e; rw [e] at hh; exact hh rfl
      rw [hne, decide_eq_true hn]; rfl
    · rw [decide_eq_false hn]; rfl
  rw [hs, a1]
  rfl
def rComp (s : Idn.Sch) (n a b : Bs) : Int × Int :=
 if (sNorm s n a).2 ≠ 0 then (0, (sNorm s n a).2)
 else if (sNorm s n b).2 ≠ 0 then (0, (sNorm s n b).2)
 else if (tyLook (sound s) n).1.syn = 4 then (cmpNm (sNorm s n a).1 (sNorm s n b).1, 0)
 else if (tyLook (sound s) n).1.syn = 3 then (Lib.compareInt (Idn.number2 (sNorm s n a).1).1 (Idn.number2 (sNorm s n b).1).1, 0)
 else (cmpB (sNorm s n a).1 (sNorm s n b).1, 0)
theorem int_read {s : Idn.Sch} {n v a : Bs} (h : sNorm s n v = (a, 0)) (hx : (tyLook (sound s) n).1.syn = 3) : (Idn.number2 a).1 = (Idn.readInt a).1 := by
 obtain ⟨_, h2, _⟩ := sNorm_ok h
 rw [hx] at h2
 obtain ⟨h3, _⟩ := normV_parts h2
 have h4 : Idn.integer v = (a, true) := h3
 obtain ⟨k, k1, k2, k3⟩ := integer_form (v := v) (by rw [h4])
 rw [h4] at k3
 dsimp only at k3
 subst k3
 rw [number_itoa k1 k2, Idn.read2_eq, (read_itoa k1 k2).1]
theorem rComp_eq (s : Idn.Sch) (n a b : Bs) : rComp s n a b = sComp s n a b := by
 have e1 : (sNorm s n a).2 = (kNorm (sound s) n a).2.2 := rfl
 have e2 : (sNorm s n b).2 = (kNorm (sound s) n b).2.2 := rfl
 have e3 : (sNorm s n a).1 = (kNorm (sound s) n a).2.1 := rfl
 have e4 : (sNorm s n b).1 = (kNorm (sound s) n b).2.1 := rfl
 unfold rComp sComp
 rw [← e1, ← e2, ← e3, ← e4]
 have ia := fun h => int_read (v := a) (Prod.ext rfl h : sNorm s n a = ((sNorm s n a).1, 0))
 have ib := fun h => int_read (v := b) (Prod.ext rfl h : sNorm s n b = ((sNorm s n b).1, 0))
 clear e1 e2 e3 e4
 generalize sNorm s n a = p at *
 generalize sNorm s n b = q at *
 generalize (tyLook (sound s) n).1.syn = x at *
 obtain ⟨p1, p2⟩ := p
 obtain ⟨q1, q2⟩ := q
 dsimp only at ia ib ⊢
 by_cases h1 : p2 = 0
 ·by_cases h2 : q2 = 0
  ·subst h1 h2
   by_cases h3 : x = 3
   ·subst h3
    simp [ia, ib]
   ·by_cases h4 : x = 4
    ·subst h4; simp
    ·simp [h3, h4, cmpB_eq]
  ·simp [h1, h2]
 ·simp [h1]
end Go.Proofs.YtmamnmjfbadiiaaGreatDoor
