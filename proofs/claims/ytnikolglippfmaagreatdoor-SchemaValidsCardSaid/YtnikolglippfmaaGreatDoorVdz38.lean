/- Part 38 of the proof that Valid returns the specified error: the package variables hold what the program lays; nothing else is asked. -/
import Derived.Test.YtnikolglippfmaaGreatDoorVdz13
import Derived.Test.YtnikolglippfmaaGreatDoorVdz23
import Derived.Test.YtnikolglippfmaaGreatDoorVdz24
import Derived.Test.YtnikolglippfmaaGreatDoorVdz25
import Derived.Test.YtnikolglippfmaaGreatDoorVdz29
import Derived.Test.YtnikolglippfmaaGreatDoorVdz36
import Derived.Test.YtnikolglippfmaaGreatDoorVdz37
import Derived.KernelRfl
/- Plain law: normal forms of values are their own normal forms, and are totally ordered. -/
namespace Go.Proofs.YtnikolglippfmaaGreatDoor
open Go.RowKit Go.Sort
open Idn (L B Bs Tot)
theorem dec_head {u : Nat} (h : 1 ≤ u) : (Lib.decDigits u).headD 0 ≠ 48 := (Idn.dig_val u).2.2.2 h
theorem read_itoa {n : Int} (h1 : -9223372036854775808 ≤ n) (h2 : n ≤ 9223372036854775807) : Idn.read2 (Lib.itoa n) = (n, 0) ∧ Idn.mag2 (Lib.itoa n) = Lib.decDigits n.natAbs ∧ Idn.isMinus (Lib.itoa n) = decide (n < 0) := by
  obtain ⟨v1, v2, v3, v4⟩ := Idn.dig_val n.natAbs
  have hne : (Lib.decDigits n.natAbs).isEmpty = false := by cases hx : Lib.decDigits n.natAbs with | nil => exact absurd hx v3 | cons _ _ => rfl
  have hnm := Idn.not_minus (Idn.all_head v3 v2)
  by_cases hn : n < 0
  · have e : Lib.itoa n = 45 :: Lib.decDigits n.natAbs := by unfold Lib.itoa; rw [if_pos hn]
    have em : Idn.mag2 (Lib.itoa n) = Lib.decDigits n.natAbs := by rw [e]; simp [Idn.mag2, Idn.isMinus]
    have ei : Idn.isMinus (Lib.itoa n) = true := by rw [e]; rfl
    refine ⟨?_, em, by rw [ei]; simp [hn]⟩
    unfold Idn.read2
    rw [em, ei, v1]
    have hd : Idn.dec2 (Lib.decDigits n.natAbs) (!true) = true := by
      unfold Idn.dec2
      have : ((Lib.decDigits n.natAbs).headD 0 == 48) = false := by simpa using v4 (by omega)
      rw [hne, this, v2]; rfl
    rw [if_neg (by rw [hd]; simp), if_pos rfl, if_pos (by omega)]
    congr 1
    omega
  · have e : Lib.itoa n = Lib.decDigits n.natAbs := by unfold Lib.itoa; rw [if_neg hn]; congr 1; omega
    have ei : Idn.isMinus (Lib.itoa n) = false := by rw [e]; exact hnm
    have em : Idn.mag2 (Lib.itoa n) = Lib.decDigits n.natAbs := by unfold Idn.mag2; rw [ei, e]; rfl
    refine ⟨?_, em, by rw [ei]; simp [hn]⟩
    unfold Idn.read2
    rw [em, ei, v1]
    have hd : Idn.dec2 (Lib.decDigits n.natAbs) (!false) = true := by
      unfold Idn.dec2
      by_cases h0 : n.natAbs = 0
      · rw [h0, Lib.decDigits_one (by decide)]; decide
      · have : ((Lib.decDigits n.natAbs).headD 0 == 48) = false := by simpa using v4 (by omega)
        rw [hne, this, v2]; rfl
    rw [if_neg (by rw [hd]; simp), if_neg (by simp), if_pos (by omega)]
    congr 1
    omega
theorem integer_itoa {n : Int} (h1 : -9223372036854775808 ≤ n) (h2 : n ≤ 9223372036854775807) : Idn.integer (Lib.itoa n) = (Lib.itoa n, true) := by
  obtain ⟨r1, r2, r3⟩ := read_itoa h1 h2
  obtain ⟨v1, v2, v3, v4⟩ := Idn.dig_val n.natAbs
  have hne : (Lib.decDigits n.natAbs).isEmpty = false := by cases hx : Lib.decDigits n.natAbs with | nil => exact absurd hx v3 | cons _ _ => rfl
  unfold Idn.integer
  rw [Idn.trimP_eq, Idn.hasP_eq, r2, r3]
  rw [if_neg (by unfold Idn.isDigs; rw [hne, v2]; simp)]
  by_cases h0 : n = 0
  · subst h0
    rw [show (0 : Int).natAbs = 0 from rfl, Lib.decDigits_one (by decide)]
    rw [if_pos (by decide), Idn.itoa_zero]
  · have hs : Idn.stripD (Lib.decDigits n.natAbs) = Lib.decDigits n.natAbs := by
      have := v4 (by omega)
      cases hx : Lib.decDigits n.natAbs with
      | nil => exact absurd hx v3
      | cons c r =>
        rw [hx] at this
        have hc : (c == 48) = false := by simpa using this
        unfold Idn.stripD
        rw [List.dropWhile_cons, hc]; rfl
    rw [hs, hne, if_neg (by simp)]
    have e : (if decide (n < 0) = true then 45 :: Lib.decDigits n.natAbs else Lib.decDigits n.natAbs) = Lib.itoa n := by
      unfold Lib.itoa
      by_cases hn : n < 0
      · rw [if_pos (by simpa using hn), if_pos hn]
      · rw [if_neg (by simpa using hn), if_neg hn]; congr 1; omega
    rw [e, Idn.read2_eq, r1]
    rfl
theorem integer_form {v : Bs} (h : (Idn.integer v).2 = true) : ∃ n : Int, -9223372036854775808 ≤ n ∧ n ≤ 9223372036854775807 ∧ (Idn.integer v).1 = Lib.itoa n := by
  unfold Idn.integer at *
  split at h
  · cases h
  · rename_i h1
    rw [if_neg h1]
    split at h
    · rename_i h2
      rw [if_pos h2]
      exact ⟨0, by decide, by decide, Idn.itoa_zero.symm⟩
    · rename_i h2
      rw [if_neg h2]
      have hb := readInt_bd (if Lib.hasPrefix v [45] = true then 45 :: Idn.stripD (Lib.trimPrefix v [45]) else Idn.stripD (Lib.trimPrefix v [45]))
      exact ⟨_, hb.1, hb.2, rfl⟩
theorem up_true : Lib.toUpperD [116, 114, 117, 101] = [84, 82, 85, 69] := by kernel_rfl
theorem up_false : Lib.toUpperD [102, 97, 108, 115, 101] = [70, 65, 76, 83, 69] := by kernel_rfl
theorem truth_form {v : Bs} (h : (Idn.truth v).2 = true) : Idn.truth (Idn.truth v).1 = ((Idn.truth v).1, true) := by
  unfold Idn.truth at *
  dsimp only at *
  rw [Bool.or_eq_true] at h
  rcases h with h | h
  · have e : Idn.lower v = [116, 114, 117, 101] := by simpa using h
    rw [e, up_true]
    rw [show Idn.lower [84, 82, 85, 69] = [116, 114, 117, 101] from by decide, up_true]; rfl
  · have e : Idn.lower v = [102, 97, 108, 115, 101] := by simpa using h
    rw [e, up_false]
    rw [show Idn.lower [70, 65, 76, 83, 69] = [102, 97, 108, 115, 101] from by decide, up_false]; rfl
theorem normSyn_idem {x : Int} {v u : Bs} (h : Idn.normSyn x v = (u, true)) : Idn.normSyn x u = (u, true) := by
  unfold Idn.normSyn at *
  by_cases h3 : x = 3
  · rw [if_pos h3] at *
    obtain ⟨n, n1, n2, e⟩ := integer_form (v := v) (by rw [h])
    rw [h] at e
    dsimp only at e
    subst e
    exact integer_itoa n1 n2
  · rw [if_neg h3] at *
    by_cases h5 : x = 5
    · rw [if_pos h5] at *
      have := truth_form (v := v) (by rw [h])
      rw [h] at this; exact this
    · rw [if_neg h5] at *
      by_cases h1 : x = 1
      · rw [if_pos h1] at *
        injection h with h _
        rw [← h, Idn.fold_fold]
      · rw [if_neg h1] at *
        by_cases h4 : x = 4
        · rw [if_pos h4] at *
          injection h with h6 h7
          obtain ⟨l, _, _, _, hc, _⟩ := Idn.clean_form (v := v) (u := u) (by rw [← h6]; exact Prod.ext rfl (by simpa using h7))
          rw [hc]; rfl
        · rw [if_neg h4] at *
theorem normV_parts {x : Int} {v u : Bs} (h : Idn.normV x v = (u, true)) : Idn.normSyn x v = (u, true) ∧ Idn.clean u = true := by
  unfold Idn.normV at h
  injection h with h1 h2
  simp only [Bool.and_eq_true] at h2
  rw [h1] at h2
  exact ⟨Prod.ext h1 h2.1, h2.2.2⟩
theorem normV_idem {x : Int} {v u : Bs} (h : Idn.normV x v = (u, true)) : Idn.normV x u = (u, true) := by
  obtain ⟨h1, h2⟩ := normV_parts h
  unfold Idn.normV
  rw [normSyn_idem h1, h2]; rfl
theorem cmpB_eq (a : Bs) : ∀ b, cmpB a b = Lib.compareBytes a b := by
  induction a with
  | nil => intro b; cases b <;> simp [cmpB, Lib.compareBytes]
  | cons x a ih =>
    intro b
    cases b with
    | nil => simp [cmpB, Lib.compareBytes]
    | cons y b =>
      rw [Idn.cb_cons, ← ih b]
      unfold cmpB
      simp only [List.cons_lt_cons_iff]
      by_cases h1 : x < y
      · simp [h1]
      · by_cases h2 : y < x
        · have hne : ¬ x = y := fun e => by subst e; exact h1 h2
          have hne' : ¬ y = x := fun e => hne e.symm
          simp [h1, h2, hne]
        · have e := Idn.u8_ext h1 h2
          subst e
          simp [h1]
theorem tot_cmpB : Tot cmpB := by
  have : cmpB = Lib.compareBytes := funext fun a => funext fun b => cmpB_eq a b
  rw [this]; exact Idn.tot_bytes
theorem tot_pr : Tot cmpPr := Idn.tot_pair tot_cmpB tot_cmpB
theorem cmpL_eqs : ∀ l m : List Idn.Pr, cmpL l m = Idn.cmpLs cmpPr l m
  | [], [] => rfl
  | [], _ :: _ => rfl
  | _ :: _, [] => rfl
  | p :: l, q :: m => by rw [cmpL, Idn.cmpLs, cmpL_eqs l m]
theorem tot_cmpL : Tot cmpL := by
  have : cmpL = Idn.cmpLs cmpPr := funext fun a => funext fun b => cmpL_eqs a b
  rw [this]; exact Idn.tot_list tot_pr
/-- how normal forms for a syntax are compared -/
def cmpSyn (x : Int) (a b : Bs) : Int := if x = 3 then Lib.compareInt (Idn.readInt a).1 (Idn.readInt b).1 else if x = 4 then cmpNm a b else Lib.compareBytes a b
/-- a key of normal forms on which they are compared -/
structure Ordr (f : Bs → Bs → Int) (N : Bs → Prop) : Prop where
  rng : ∀ a b, N a → N b → f a b = -1 ∨ f a b = 0 ∨ f a b = 1
  neg : ∀ a b, N a → N b → f b a = - f a b
  eq : ∀ a b, N a → N b → (f a b = 0 ↔ a = b)
  tr : ∀ a b c, N a → N b → N c → f a b ≤ 0 → f b c ≤ 0 → f a c ≤ 0
theorem Ordr.of_key {α : Type} {g : α → α → Int} (hg : Tot g) {f : Bs → Bs → Int} {N : Bs → Prop} (k : Bs → α) (hk : ∀ a b, N a → N b → f a b = g (k a) (k b)) (hi : ∀ a b, N a → N b → k a = k b → a = b) : Ordr f N :=
  ⟨fun a b ha hb => by rw [hk a b ha hb]; exact hg.rng _ _, fun a b ha hb => by rw [hk a b ha hb, hk b a hb ha]; exact hg.neg _ _,
    fun a b ha hb => by rw [hk a b ha hb, hg.eq]; exact ⟨hi a b ha hb, fun e => by rw [e]⟩,
    fun a b c ha hb hc h1 h2 => by rw [hk a b ha hb] at h1; rw [hk b c hb hc] at h2; rw [hk a c ha hc]; exact hg.tr _ _ _ h1 h2⟩
theorem ordr_syn (x : Int) : Ordr (cmpSyn x) (fun u => ∃ v, Idn.normV x v = (u, true)) := by
  by_cases h3 : x = 3
  · refine Ordr.of_key Idn.tot_int (fun a => (Idn.readInt a).1) (fun a b _ _ => by unfold cmpSyn; rw [if_pos h3]) ?_
    rintro a b ⟨v, hv⟩ ⟨w, hw⟩ e
    have key : ∀ u v, Idn.normV x v = (u, true) → u = Lib.itoa (Idn.readInt u).1 := fun u v hv => by
      have h1 := (normV_parts hv).1
      unfold Idn.normSyn at h1
      rw [if_pos h3] at h1
      obtain ⟨n, n1, n2, e⟩ := integer_form (v := v) (by rw [h1])
      rw [h1] at e
      dsimp only at e
      subst e
      rw [Idn.read2_eq, (read_itoa n1 n2).1]
    rw [key a v hv, key b w hw, show (Idn.readInt a).1 = (Idn.readInt b).1 from e]
  · by_cases h4 : x = 4
    · have key : ∀ u v, Idn.normV x v = (u, true) → ∃ l, Idn.check l = 0 ∧ u = Idn.fmtJ l ∧ Idn.normal u = (l.map Idn.nrm, true) := fun u v hv => by
        have h1 := (normV_parts hv).1
        unfold Idn.normSyn at h1
        rw [if_neg h3, if_neg (by omega), if_neg (by omega), if_pos h4] at h1
        injection h1 with h6 h7
        obtain ⟨l, hc, hu, _, _, hn⟩ := Idn.clean_form (v := v) (u := u) (by rw [← h6]; exact Prod.ext rfl (by simpa using h7))
        exact ⟨l, hc, hu, hn⟩
      refine Ordr.of_key tot_cmpL (fun a => (Idn.normal a).1.reverse) ?_ ?_
      · rintro a b ⟨v, hv⟩ ⟨w, hw⟩
        obtain ⟨l, _, _, hn⟩ := key a v hv
        obtain ⟨m, _, _, hm⟩ := key b w hw
        unfold cmpSyn cmpNm
        rw [if_neg h3, if_pos h4, hn, hm]; rfl
      · rintro a b ⟨v, hv⟩ ⟨w, hw⟩ e
        obtain ⟨l, _, hu, hn⟩ := key a v hv
        obtain ⟨m, _, hu2, hm⟩ := key b w hw
        rw [hn, hm] at e
        have e2 : l.map Idn.nrm = m.map Idn.nrm := by simpa using e
        rw [hu, hu2, ← Idn.fmtJ_nrm l, ← Idn.fmtJ_nrm m, e2]
    · exact Ordr.of_key Idn.tot_bytes id (fun a b _ _ => by unfold cmpSyn; rw [if_neg h3, if_neg h4]; rfl) (fun a b _ _ h => h)
theorem sNorm_ok {s : Idn.Sch} {n v a : Bs} (h : sNorm s n v = (a, 0)) : (tyLook (sound s) n).2 = true ∧ Idn.normV (tyLook (sound s) n).1.syn v = (a, true) ∧ kNorm (sound s) n v = ((tyLook (sound s) n).1, a, 0) := by
  unfold sNorm at h
  have hk : kNorm (sound s) n v = if !(tyLook (sound s) n).2 then ((tyLook (sound s) n).1, [], 6) else if !(Idn.normV (tyLook (sound s) n).1.syn v).2 then ((tyLook (sound s) n).1, [], 8) else ((tyLook (sound s) n).1, (Idn.normV (tyLook (sound s) n).1.syn v).1, 0) := rfl
  cases h1 : (tyLook (sound s) n).2
  · rw [hk, h1] at h; simp at h
  · cases h2 : (Idn.normV (tyLook (sound s) n).1.syn v).2
    · rw [hk, h1, h2] at h; simp at h
    · rw [hk, h1, h2] at h
      simp at h
      refine ⟨rfl, Prod.ext h h2, ?_⟩
      rw [hk, h1, h2]
      simp [h]
theorem sNorm_of {s : Idn.Sch} {n v a : Bs} (h1 : (tyLook (sound s) n).2 = true) (h2 : Idn.normV (tyLook (sound s) n).1.syn v = (a, true)) : sNorm s n v = (a, 0) := by
  unfold sNorm kNorm
  rw [h1, h2]; rfl
theorem sComp_of {s : Idn.Sch} {n u v a b : Bs} (ha : sNorm s n u = (a, 0)) (hb : sNorm s n v = (b, 0)) : sComp s n u v = (cmpSyn (tyLook (sound s) n).1.syn a b, 0) := by
  obtain ⟨_, _, k1⟩ := sNorm_ok ha
  obtain ⟨_, _, k2⟩ := sNorm_ok hb
  unfold sComp cmpSyn
  rw [k1, k2]
  dsimp only
  by_cases h3 : (tyLook (sound s) n).1.syn = 3
  · simp [h3]
  · by_cases h4 : (tyLook (sound s) n).1.syn = 4
    · simp [h4]
    · simp [h3, h4]
/-- what SchemaOrders asks -/
theorem orders_law {s : Idn.Sch} {n A1 B1 C1 a b c : Bs} (ha : sNorm s n A1 = (a, 0)) (hb : sNorm s n B1 = (b, 0)) (hc : sNorm s n C1 = (c, 0)) :
    sNorm s n a = (a, 0) ∧ ∃ p q r t : Int, sComp s n A1 B1 = (p, 0) ∧ sComp s n B1 A1 = (q, 0) ∧ sComp s n B1 C1 = (r, 0) ∧ sComp s n A1 C1 = (t, 0) ∧ (p = -1 ∨ p = 0 ∨ p = 1) ∧ q = -p ∧ (p = 0 ↔ a = b) ∧ (p ≤ 0 → r ≤ 0 → t ≤ 0) ∧ -1 ≤ r ∧ r ≤ 1 ∧ -1 ≤ t ∧ t ≤ 1 := by
  obtain ⟨t1, na, _⟩ := sNorm_ok ha
  obtain ⟨_, nb, _⟩ := sNorm_ok hb
  obtain ⟨_, nc, _⟩ := sNorm_ok hc
  have O := ordr_syn (tyLook (sound s) n).1.syn
  have Na : ∃ v, Idn.normV (tyLook (sound s) n).1.syn v = (a, true) := ⟨_, na⟩
  have Nb : ∃ v, Idn.normV (tyLook (sound s) n).1.syn v = (b, true) := ⟨_, nb⟩
  have Nc : ∃ v, Idn.normV (tyLook (sound s) n).1.syn v = (c, true) := ⟨_, nc⟩
  refine ⟨sNorm_of t1 (normV_idem na), _, _, _, _, sComp_of ha hb, sComp_of hb ha, sComp_of hb hc, sComp_of ha hc, O.rng a b Na Nb, O.neg a b Na Nb, O.eq a b Na Nb, O.tr a b c Na Nb Nc, ?_⟩
  have r1 := O.rng b c Nb Nc
  have r2 := O.rng a c Na Nc
  omega
end Go.Proofs.YtnikolglippfmaaGreatDoor
/- Plain law: Normal and Compare by the reference are the layer's. -/
namespace Go.Proofs.YtnikolglippfmaaGreatDoor
open Go.RowKit Go.Sort
open Idn (L B Bs)
def tTrue : Bs := [116, 114, 117, 101]
def tFalse : Bs := [102, 97, 108, 115, 101]
/-- the normal form of a value for a syntax, by the reference -/
def form2 (x : Int) (v : Bs) : Bs × Bool :=
  if x = 1 then (Idn.fold v, true) else if x = 2 then (v, true) else if x = 3 then (Lib.itoa (Idn.number2 v).1, (Idn.number2 v).2)
  else if x = 4 then ((Idn.cleanN v).1, (Idn.cleanN v).2 == 0) else if Idn.lower v = tTrue then ([84, 82, 85, 69], true) else ([70, 65, 76, 83, 69], Idn.lower v == tFalse)
theorem form2_eq {x : Int} (h1 : 1 ≤ x) (h5 : x ≤ 5) (v : Bs) : (form2 x v).2 = (Idn.normSyn x v).2 ∧ ((Idn.normSyn x v).2 = true → (form2 x v).1 = (Idn.normSyn x v).1) := by
  have hx : x = 1 ∨ x = 2 ∨ x = 3 ∨ x = 4 ∨ x = 5 := by omega
  unfold form2 Idn.normSyn
  rcases hx with rfl | rfl | rfl | rfl | rfl
  · exact ⟨rfl, fun _ => rfl⟩
  · exact ⟨rfl, fun _ => rfl⟩
  · exact Idn.number_eq v
  · exact ⟨rfl, fun _ => rfl⟩
  · simp only [show ¬ (5 : Int) = 1 by decide, show ¬ (5 : Int) = 2 by decide, show ¬ (5 : Int) = 3 by decide, show ¬ (5 : Int) = 4 by decide, if_false, if_true]
    unfold Idn.truth tTrue tFalse
    by_cases ht : Idn.lower v = [116, 114, 117, 101]
    · rw [if_pos ht, ht]; exact ⟨rfl, fun _ => up_true.symm⟩
    · rw [if_neg ht]
      have e : (Idn.lower v == [116, 114, 117, 101]) = false := by simpa using ht
      dsimp only
      rw [e, Bool.false_or]
      refine ⟨rfl, fun h => ?_⟩
      have h2 : Idn.lower v = [102, 97, 108, 115, 101] := by simpa using h
      rw [h2]; exact up_false.symm
theorem syn_range {s : Idn.Sch} {n : Bs} (h : (tyLook (sound s) n).2 = true) : 1 ≤ (tyLook (sound s) n).1.syn ∧ (tyLook (sound s) n).1.syn ≤ 5 := by
  unfold tyLook at h ⊢
  cases hx : Idn.ixT (sound s).types n with
  | none => rw [hx] at h; cases h
  | some k =>
    rw [hx] at h
    dsimp only at h ⊢
    cases hy : (sound s).types[k]? with
    | none => rw [hy] at h; cases h
    | some t =>
      dsimp only
      have hm := List.mem_of_getElem? hy
      unfold sound at hm
      by_cases hs : Idn.sCheck s = 0
      · rw [if_pos hs] at hm
        exact ((Idn.sCheck_ok hs).1 t hm).2
      · rw [if_neg hs] at hm; simp at hm
/-- Normal, by the reference -/
def rNorm (s : Idn.Sch) (n v : Bs) : Bs × Int :=
  if (tyLook (sound s) n).2 = false then ([], 6)
  else if Idn.clean v = false then ([], 8)
  else if (!(form2 (tyLook (sound s) n).1.syn v).2 || !Idn.clean (form2 (tyLook (sound s) n).1.syn v).1) = true then ([], 8)
  else ((form2 (tyLook (sound s) n).1.syn v).1, 0)
theorem rNorm_eq (s : Idn.Sch) (n v : Bs) : rNorm s n v = sNorm s n v := by
  unfold rNorm sNorm kNorm
  cases hok : (tyLook (sound s) n).2
  · simp
  · obtain ⟨h1, h5⟩ := syn_range hok
    obtain ⟨e1, e2⟩ := form2_eq h1 h5 v
    generalize (tyLook (sound s) n).1.syn = x at *
    unfold Idn.normV
    generalize form2 x v = f at *
    generalize Idn.normSyn x v = g at *
    obtain ⟨f1, f2⟩ := f
    obtain ⟨g1, g2⟩ := g
    dsimp only at e1 e2 ⊢
    subst e1
    cases f2
    · cases Idn.clean v <;> simp
    · have := e2 rfl
      subst this
      cases Idn.clean v <;> cases Idn.clean f1 <;> simp
theorem number_itoa {n : Int} (h1 : -9223372036854775808 ≤ n) (h2 : n ≤ 9223372036854775807) : (Idn.number2 (Lib.itoa n)).1 = n := by
  obtain ⟨a1, a2, a3⟩ := read_itoa h1 h2
  have hd := Idn.dig_val n.natAbs
  have hz : Idn.stripZ (Lib.decDigits n.natAbs) = Lib.decDigits n.natAbs := by
    rw [Idn.stripZ_D _ hd.2.2.1 hd.2.1]
    by_cases h0 : n.natAbs = 0
    · rw [h0, Lib.decDigits_one (by decide)]; rfl
    · have hh := hd.2.2.2 (by omega)
      have e : Idn.stripD (Lib.decDigits n.natAbs) = Lib.decDigits n.natAbs := by
        cases hx : Lib.decDigits n.natAbs with
        | nil => rfl
        | cons c r =>
          rw [hx] at hh
          have hc : (c == 48) = false := by simpa using hh
          unfold Idn.stripD
          rw [List.dropWhile_cons, hc]; rfl
      rw [e]
      cases hx : Lib.decDigits n.natAbs with
      | nil => exact absurd hx hd.2.2.1
      | cons c r => rfl
  have hdig : Idn.digit ((Lib.decDigits n.natAbs).headD 0) = true := Idn.all_head hd.2.2.1 hd.2.1
  have hie : (Lib.decDigits n.natAbs).isEmpty = false := by cases hx : Lib.decDigits n.natAbs with | nil => exact absurd hx hd.2.2.1 | cons _ _ => rfl
  unfold Idn.number2
  rw [a2, a3, hz, hdig, hie]
  have hs : Idn.signed (decide (n < 0)) (Lib.decDigits n.natAbs) = Lib.itoa n := by
    unfold Idn.signed
    have hm : Lib.itoa n = if Idn.isMinus (Lib.itoa n) then 45 :: Idn.mag2 (Lib.itoa n) else Idn.mag2 (Lib.itoa n) := by
      unfold Idn.mag2
      cases hx : Lib.itoa n with
      | nil => rfl
      | cons c r =>
        by_cases hc : c = 45
        · subst hc; rfl
        · have : Idn.isMinus (c :: r) = false := by simpa [Idn.isMinus] using hc
          rw [this]; rfl
    rw [hm, a2, a3]
    by_cases hn : n < 0
    · have hh := hd.2.2.2 (by omega)
      have hne : (Lib.decDigits n.natAbs == [48]) = false := by
        rw [beq_eq_false_iff_ne]; intro e; rw [e] at hh; exact hh rfl
      rw [hne, decide_eq_true hn]; rfl
    · rw [decide_eq_false hn]; rfl
  rw [hs, a1]
  rfl
/-- Compare, by the reference -/
def rComp (s : Idn.Sch) (n a b : Bs) : Int × Int :=
  if (sNorm s n a).2 ≠ 0 then (0, (sNorm s n a).2)
  else if (sNorm s n b).2 ≠ 0 then (0, (sNorm s n b).2)
  else if (tyLook (sound s) n).1.syn = 4 then (cmpNm (sNorm s n a).1 (sNorm s n b).1, 0)
  else if (tyLook (sound s) n).1.syn = 3 then (Lib.compareInt (Idn.number2 (sNorm s n a).1).1 (Idn.number2 (sNorm s n b).1).1, 0)
  else (cmpB (sNorm s n a).1 (sNorm s n b).1, 0)
theorem int_read {s : Idn.Sch} {n v a : Bs} (h : sNorm s n v = (a, 0)) (hx : (tyLook (sound s) n).1.syn = 3) : (Idn.number2 a).1 = (Idn.readInt a).1 := by
  obtain ⟨_, h2, _⟩ := sNorm_ok h
  rw [hx] at h2
  obtain ⟨h3, _⟩ := normV_parts h2
  have h4 : Idn.integer v = (a, true) := h3
  obtain ⟨k, k1, k2, k3⟩ := integer_form (v := v) (by rw [h4])
  rw [h4] at k3
  dsimp only at k3
  subst k3
  rw [number_itoa k1 k2, Idn.read2_eq, (read_itoa k1 k2).1]
theorem rComp_eq (s : Idn.Sch) (n a b : Bs) : rComp s n a b = sComp s n a b := by
  have e1 : (sNorm s n a).2 = (kNorm (sound s) n a).2.2 := rfl
  have e2 : (sNorm s n b).2 = (kNorm (sound s) n b).2.2 := rfl
  have e3 : (sNorm s n a).1 = (kNorm (sound s) n a).2.1 := rfl
  have e4 : (sNorm s n b).1 = (kNorm (sound s) n b).2.1 := rfl
  unfold rComp sComp
  rw [← e1, ← e2, ← e3, ← e4]
  have ia := fun h => int_read (v := a) (Prod.ext rfl h : sNorm s n a = ((sNorm s n a).1, 0))
  have ib := fun h => int_read (v := b) (Prod.ext rfl h : sNorm s n b = ((sNorm s n b).1, 0))
  clear e1 e2 e3 e4
  generalize sNorm s n a = p at *
  generalize sNorm s n b = q at *
  generalize (tyLook (sound s) n).1.syn = x at *
  obtain ⟨p1, p2⟩ := p
  obtain ⟨q1, q2⟩ := q
  dsimp only at ia ib ⊢
  by_cases h1 : p2 = 0
  · by_cases h2 : q2 = 0
    · subst h1 h2
      by_cases h3 : x = 3
      · subst h3
        simp [ia, ib]
      · by_cases h4 : x = 4
        · subst h4; simp
        · simp [h3, h4, cmpB_eq]
    · simp [h1, h2]
  · simp [h1]
end Go.Proofs.YtnikolglippfmaaGreatDoor
/- identityref05: Compare. -/
namespace Go.Proofs.YtnikolglippfmaaGreatDoor
open Go.RowKit Go.Sort
open Idn (L B Bs drop_L take_L size_L)
theorem cmpB_same (a : Bs) : cmpB a a = 0 := by
  unfold cmpB
  rw [if_neg (List.lt_irrefl a), if_neg (List.lt_irrefl a)]
theorem cmpB_diff {a b : Bs} (h : ¬ a = b) : cmpB a b ≠ 0 := by
  unfold cmpB
  by_cases h1 : a < b
  · rw [if_pos h1]; decide
  · rw [if_neg h1]
    by_cases h2 : b < a
    · rw [if_pos h2]; decide
    · exact absurd (Decidable.byContradiction fun e => h2 (Idn.lt_of _ _ h1 e)) h
theorem cmpNm_parts (a b : Bs) : cmpNm a b = if (partsN a).2 then (if (partsN b).2 then cmpL (partsN a).1.reverse (partsN b).1.reverse else -1) else if (partsN b).2 then 1 else cmpB a b := by
  unfold cmpNm partsN
  rw [normal_valid, normal_valid]
  cases ha : validN a <;> cases hb : validN b
  · rfl
  · rfl
  · rfl
  · simp only [if_true, (normal_parts ha).1, (normal_parts hb).1]
theorem parts_sm (s : Bs) : (partsN s).1.length ≤ 8 := by
  unfold partsN
  split
  · exact (parse_sm s).1
  · simp
set_option maxHeartbeats 2000000 in
set_option maxRecDepth 100000 in
theorem r5_Compare_any (a b : ByteArray) (w : World) (ha : a.size ≤ 1000000000) (hb : b.size ≤ 1000000000) :
    Calls Tryz.prog 44 #[.string a, .string b] w fun e w' => e = .returned (.int .i64 (cmpNm (L a) (L b))) ∧ Below w.heap.size w w' := by
  have h1 := r5_parts_any a w ha
  have h2 := fun W => r5_parts_any b W hb
  have hla := parts_sm (L a)
  have hlb := parts_sm (L b)
  rw [cmpNm_parts]
  generalize hr : (if (partsN (L a)).2 then (if (partsN (L b)).2 then cmpL (partsN (L a)).1.reverse (partsN (L b)).1.reverse else -1) else if (partsN (L b)).2 then 1 else cmpB (L a) (L b)) = r
  have HR : Hid (r = if (partsN (L a)).2 then (if (partsN (L b)).2 then cmpL (partsN (L a)).1.reverse (partsN (L b)).1.reverse else -1) else if (partsN (L b)).2 then 1 else cmpB (L a) (L b)) := hr.symm
  have hCS := fun W => r5_bytes_any a b W
  generalize partsN (L a) = na at *
  generalize partsN (L b) = nb at *
  obtain ⟨l, ok⟩ := na
  obtain ⟨m, is⟩ := nb
  dsimp only at HR hla hlb
  generalize cmpB (L a) (L b) = cb at *
  clear hr
  go_enter Tryz.func44, Tryz.ntmps44
  go_wp2_with fail
  refine h1.mono ?_
  rintro e w1 ⟨v1, rfl, ho1, hb1⟩
  obtain ⟨A, c, hv⟩ := own_shape ho1
  subst hv
  clear h1
  dsimp only at *
  go_wp2_with fail
  refine (h2 w1).mono ?_
  rintro e w3 ⟨v3, rfl, ho3, hb3⟩
  obtain ⟨A', c', hv⟩ := own_shape ho3
  subst hv
  have hbw3 := hb1.trans (hb3.mono hb1.size)
  have hP1 := PairsV.of_own (own_below ho1 hb3)
  have hP2 := PairsV.of_own ho3
  clear h2 ho1 ho3
  dsimp only at *
  cases ok
  · cases is
    · have HF : Hid (r = cb) := HR.out
      clear HR
      go_wp2_with fail
      refine (hCS _).mono ?_
      rintro e w5 ⟨rfl, rfl⟩
      go_wp2
      go_ret
      exact ⟨ret_int HF.out.symm, hbw3⟩
    · have HF : Hid (r = 1) := HR.out
      clear HR
      go_wp2
      go_ret
      exact ⟨ret_int HF.out.symm, hbw3⟩
  · cases is
    · have HF : Hid (r = -1) := HR.out
      clear HR
      go_wp2
      go_ret
      exact ⟨ret_int HF.out.symm, hbw3⟩
    · have HF : Hid (r = cmpL l.reverse m.reverse) := HR.out
      clear HR hCS
      have hst := cmpL_step l.reverse m.reverse
      have hen := cmpL_end l.reverse m.reverse
      simp only [List.length_reverse] at hst hen
      have HST := Lib.hid hst
      have HEN := Lib.hid hen
      clear hst hen
      go_wp2
      go_loopw [9] (fun x wr => ∃ i : Nat, 1 ≤ i ∧ i ≤ l.length + 1 ∧ i ≤ m.length + 1 ∧ x = .int .i64 i ∧ Below w3.heap.size w3 wr ∧ Hid (r = cmpL (l.reverse.drop (i - 1)) (m.reverse.drop (i - 1)))) (fun x _ => l.length + 1 - (intOf x).toNat)
      case atStart => exact ⟨1, Nat.le_refl _, by omega, by omega, rfl, Below.refl _ _, HF.out⟩
      case round =>
        obtain ⟨i, hi1, hil1, him1, rfl, hb, hinv⟩ := hrel
        clear HF
        by_cases hil : i ≤ l.length
        case neg =>
          have hilI : ¬ (i : Int) ≤ (l.length : Int) := by omega
          have HG : Hid (r = Lib.compareInt l.length m.length) := by show _ = _; rw [hinv.out, HEN.out (i - 1) (by omega) (by omega) (by omega)]
          clear HST HEN hinv
          rcases Nat.lt_trichotomy l.length m.length with hc9 | hc9 | hc9
          · have h9 : (l.length : Int) < (m.length : Int) := by omega
            have HH : Hid (r = -1) := by show _ = _; rw [HG.out, Lib.compareInt, if_pos h9]
            clear HG hc9
            go_wp2
            go_ret
            exact ⟨ret_int HH.out.symm, hbw3.trans (hb.mono hbw3.size)⟩
          · have h9 : ¬ (l.length : Int) < (m.length : Int) := by omega
            have h10 : ¬ (m.length : Int) < (l.length : Int) := by omega
            have HH : Hid (r = 0) := by show _ = _; rw [HG.out, Lib.compareInt, if_neg h9, if_neg h10]
            clear HG hc9
            go_wp2
            go_ret
            exact ⟨ret_int HH.out.symm, hbw3.trans (hb.mono hbw3.size)⟩
          · have h9 : ¬ (l.length : Int) < (m.length : Int) := by omega
            have h10 : (m.length : Int) < (l.length : Int) := by omega
            have HH : Hid (r = 1) := by show _ = _; rw [HG.out, Lib.compareInt, if_neg h9, if_pos h10]
            clear HG hc9
            go_wp2
            go_ret
            exact ⟨ret_int HH.out.symm, hbw3.trans (hb.mono hbw3.size)⟩
        case pos =>
        have hilI : (i : Int) ≤ (l.length : Int) := by omega
        by_cases him : i ≤ m.length
        case neg =>
          have himI : ¬ (i : Int) ≤ (m.length : Int) := by omega
          have HG : Hid (r = Lib.compareInt l.length m.length) := by show _ = _; rw [hinv.out, HEN.out (i - 1) (by omega) (by omega) (by omega)]
          clear HST HEN hinv
          rcases Nat.lt_trichotomy l.length m.length with hc9 | hc9 | hc9
          · have h9 : (l.length : Int) < (m.length : Int) := by omega
            have HH : Hid (r = -1) := by show _ = _; rw [HG.out, Lib.compareInt, if_pos h9]
            clear HG hc9
            go_wp2
            go_ret
            exact ⟨ret_int HH.out.symm, hbw3.trans (hb.mono hbw3.size)⟩
          · have h9 : ¬ (l.length : Int) < (m.length : Int) := by omega
            have h10 : ¬ (m.length : Int) < (l.length : Int) := by omega
            have HH : Hid (r = 0) := by show _ = _; rw [HG.out, Lib.compareInt, if_neg h9, if_neg h10]
            clear HG hc9
            go_wp2
            go_ret
            exact ⟨ret_int HH.out.symm, hbw3.trans (hb.mono hbw3.size)⟩
          · have h9 : ¬ (l.length : Int) < (m.length : Int) := by omega
            have h10 : (m.length : Int) < (l.length : Int) := by omega
            have HH : Hid (r = 1) := by show _ = _; rw [HG.out, Lib.compareInt, if_neg h9, if_pos h10]
            clear HG hc9
            go_wp2
            go_ret
            exact ⟨ret_int HH.out.symm, hbw3.trans (hb.mono hbw3.size)⟩
        case pos =>
        have himI : (i : Int) ≤ (m.length : Int) := by omega
        have hs := HST.out (i - 1) (by omega) (by omega)
        have e1 : l.reverse[i - 1]'(by simp; omega) = l[l.length - i]'(by omega) := by rw [List.getElem_reverse]; congr 1; omega
        have e2 : m.reverse[i - 1]'(by simp; omega) = m[m.length - i]'(by omega) := by rw [List.getElem_reverse]; congr 1; omega
        rw [e1, e2, show i - 1 + 1 = i by omega] at hs
        have HS := Lib.hid hs
        clear hs e1 e2 HST HEN
        have hli : l.length - i < l.length := by omega
        have hmi : m.length - i < m.length := by omega
        obtain ⟨b0, off, rfl, hbl, c0, c1⟩ := PairsV.cell (SlV.keep hP1 hb) hli
        obtain ⟨b1, off', rfl, hbl', d0, d1⟩ := PairsV.cell (SlV.keep hP2 hb) hmi
        have k1 : (l.length : Int) - (i : Int) = ((l.length - i : Nat) : Int) := by omega
        have k2 : (m.length : Int) - (i : Int) = ((m.length - i : Nat) : Int) := by omega
        have q1 : IntKind.i64.wrap ((l.length : Int) - (i : Int)) = ((l.length - i : Nat) : Int) := by rw [k1]; exact IntWalk.i64_in _ (by omega)
        have q2 : IntKind.i64.wrap ((m.length : Int) - (i : Int)) = ((m.length - i : Nat) : Int) := by rw [k2]; exact IntWalk.i64_in _ (by omega)
        have j1 : ((l.length - i : Nat) : Int) < (l.length : Int) := by omega
        have j2 : ((m.length - i : Nat) : Int) < (m.length : Int) := by omega
        generalize l[l.length - i] = x at *
        generalize m[m.length - i] = y at *
        generalize l.length - i = li at *
        generalize m.length - i = mi at *
        have hB1 := fun W => r5_bytes_any (B x.1) (B y.1) W
        have hB2 := fun W => r5_bytes_any (B x.2) (B y.2) W
        rw [Idn.L_B, Idn.L_B] at hB1 hB2
        have hway : (((B x.1).toList == (B y.1).toList) = false ∧ Hid (r = cmpB x.1 y.1)) ∨ (((B x.1).toList == (B y.1).toList) = true ∧ ((B x.2).toList == (B y.2).toList) = false ∧ Hid (r = cmpB x.2 y.2)) ∨
            (((B x.1).toList == (B y.1).toList) = true ∧ ((B x.2).toList == (B y.2).toList) = true ∧ Hid (r = cmpL (l.reverse.drop i) (m.reverse.drop i))) := by
          have hp := HS.out
          by_cases z1 : x.1 = y.1
          · have z1' : ((B x.1).toList == (B y.1).toList) = true := by rw [z1]; exact str_is rfl
            by_cases z2 : x.2 = y.2
            · have z2' : ((B x.2).toList == (B y.2).toList) = true := by rw [z2]; exact str_is rfl
              refine .inr (.inr ⟨z1', z2', ?_⟩)
              show _ = _
              rw [hinv.out, hp, if_pos (by rw [cmpPr, z1, z2, cmpB_same, cmpB_same]; rfl)]
            · have z2' : ((B x.2).toList == (B y.2).toList) = false := str_not (by rw [Idn.L_B, Idn.L_B]; exact z2)
              refine .inr (.inl ⟨z1', z2', ?_⟩)
              have e : cmpPr x y = cmpB x.2 y.2 := by rw [cmpPr, z1, cmpB_same]; rfl
              show _ = _
              rw [hinv.out, hp, e, if_neg (cmpB_diff z2)]
          · have z1' : ((B x.1).toList == (B y.1).toList) = false := str_not (by rw [Idn.L_B, Idn.L_B]; exact z1)
            refine .inl ⟨z1', ?_⟩
            have e : cmpPr x y = cmpB x.1 y.1 := by rw [cmpPr, or2, if_neg (cmpB_diff z1)]
            show _ = _
            rw [hinv.out, hp, e, if_neg (cmpB_diff z1)]
        clear HS hinv k1 k2 hP1 hP2
        generalize cmpB x.1 y.1 = g1 at *
        generalize cmpB x.2 y.2 = g2 at *
        go_wp2_with fail
        have hS : ∀ W', Below wr.heap.size wr W' → W'.cell? ⟨b0, off + li * 2, none⟩ = some (.string (B x.1)) ∧ W'.cell? ⟨b0, off + li * 2 + 1, none⟩ = some (.string (B x.2)) ∧ W'.cell? ⟨b1, off' + mi * 2, none⟩ = some (.string (B y.1)) ∧ W'.cell? ⟨b1, off' + mi * 2 + 1, none⟩ = some (.string (B y.2)) ∧ Below wr.heap.size wr W' := fun W' hW =>
          ⟨cell_later hW c0, cell_later hW c1, cell_later hW d0, cell_later hW d1, hW⟩
        have hw0 := Below.refl wr.heap.size wr
        go_region_held3 (fun W' => W'.cell? ⟨b0, off + li * 2, none⟩ = some (.string (B x.1)) ∧ W'.cell? ⟨b0, off + li * 2 + 1, none⟩ = some (.string (B x.2)) ∧ W'.cell? ⟨b1, off' + mi * 2, none⟩ = some (.string (B y.1)) ∧ W'.cell? ⟨b1, off' + mi * 2 + 1, none⟩ = some (.string (B y.2)) ∧ Below wr.heap.size wr W')
          (first | (refine hS _ ?_; repeat (first | with_reducible exact Below.refl _ _ | with_reducible apply Below.drew | with_reducible refine Below.lay ?_ _ | with_reducible refine Below.setCell ?_ (by simp) _)))
          (first | fail)
        all_goals
          with_reducible refine gen2d (R := fun X => Exit.then _ _ _ _ X) ?_
          intro X hbX n1 n2
          have a0 := n1 0 _ rfl
          have a1 := n1 1 _ rfl
          have a2 := n2 0 _ rfl
          have a3 := n2 1 _ rfl
          clear n1 n2 hS hw0
          have hbx := hb.trans (hbX.mono hb.size)
          have hbwx := hbw3.trans (hbx.mono hbw3.size)
          rcases hway with ⟨z1, HG⟩ | ⟨z1, z2, HG⟩ | ⟨z1, z2, HG⟩
          · clear hB2
            go_wp2_with fail
            refine (hB1 _).mono ?_
            rintro e w6 ⟨rfl, rfl⟩
            go_wp2
            go_ret
            exact ⟨ret_int HG.out.symm, hbwx⟩
          · clear hB1
            go_wp2_with fail
            refine (hB2 _).mono ?_
            rintro e w6 ⟨rfl, rfl⟩
            go_wp2
            go_ret
            exact ⟨ret_int HG.out.symm, hbwx⟩
          · clear hB1 hB2
            go_wp2
            go_roundw
            case rel => exact ⟨i + 1, by omega, by omega, by omega, by go_num, hbx, by simpa using HG⟩
            case measure => simp [intOf]; omega
end Go.Proofs.YtnikolglippfmaaGreatDoor
