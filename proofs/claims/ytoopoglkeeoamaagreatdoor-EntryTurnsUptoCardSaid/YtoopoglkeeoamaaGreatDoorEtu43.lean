/- Part 43 of the proof that EntryTurns: the package variables hold what the program lays; nothing else is asked. -/
import Derived.Test.YtoopoglkeeoamaaGreatDoorEtu42
import Derived.KernelRfl
set_option linter.unusedVariables false
set_option linter.unusedSimpArgs false
/- Plain law of EntryTurns. -/
namespace Go.Proofs.YtoopoglkeeoamaaGreatDoor
open Go.RowKit Go.Sort
open Idn (L B Bs)
theorem valsOf_filter (S : List Idn.Att) (n m : Bs) (hS : ∀ a ∈ S, Idn.lower a.name = a.name) (h : Idn.lower m ≠ Idn.lower n) : Idn.valsOf (S.filter fun a => !decide (a.name = Idn.lower n)) (Idn.lower m) = Idn.valsOf S (Idn.lower m) := by
  unfold Idn.valsOf
  rw [List.filter_filter]
  congr 1
  refine List.filter_congr fun a ha => ?_
  by_cases e : Idn.lower a.name = Idn.lower m
  · rw [decide_eq_true e, Bool.true_and]
    have : a.name ≠ Idn.lower n := fun e2 => h (by rw [← e, hS a ha, e2])
    simpa using this
  · rw [decide_eq_false e, Bool.false_and]
/-- one attribute has been set: the values of all -/
theorem set_get (S : List Idn.Att) (n : Bs) (v : List Bs) (m : Bs) : rGet (aSet (Idn.rSorted S) n v) m = if Idn.lower m = Idn.lower n then Idn.insAll v else rGet S m := by
  by_cases e : Idn.lower m = Idn.lower n
  · rw [if_pos e]
    have h := aSet_get S n v
    rw [rGet_law] at h ⊢
    rw [e]; exact h
  · rw [if_neg e]
    unfold aSet
    rw [rGet_sorted, rGet_law, Idn.valsOf_app, valsOf_filter _ _ _ (fun a ha => Idn.rSorted_name ha) e, valsOf_sorted]
    have : Idn.valsOf [⟨Idn.lower n, v⟩] (Idn.lower m) = [] := by
      unfold Idn.valsOf
      have : Idn.lower n ≠ Idn.lower m := fun e2 => e e2.symm
      simp [Idn.lower_lower, this]
    rw [this, List.append_nil, insAll_idem, rGet_law]
theorem rGet_mem_name {S : List Idn.Att} {m : Bs} (h : rGet S m ≠ []) : ∃ a ∈ S, Idn.lower a.name = Idn.lower m := by
  rw [rGet_law] at h
  have h2 : Idn.valsOf S (Idn.lower m) ≠ [] := fun e => h (by rw [e]; rfl)
  rw [← Idn.mem_lows] at h2
  unfold Idn.lows at h2
  obtain ⟨a, ha, e⟩ := List.mem_map.1 h2
  exact ⟨a, (List.mem_filter.1 ha).1, e⟩
theorem rSorted_ext {S T : List Idn.Att} (h : ∀ m, rGet S m = rGet T m) : Idn.rSorted S = Idn.rSorted T := by
  have hv : ∀ m, Idn.lower m = m → Idn.insAll (Idn.valsOf S m) = Idn.insAll (Idn.valsOf T m) := fun m hm => by
    have := h m
    rw [rGet_law, rGet_law, hm] at this
    exact this
  have low : ∀ (l : List Idn.Att) m, m ∈ Idn.lows l → Idn.lower m = m := fun l m hm => by
    unfold Idn.lows at hm
    obtain ⟨a, _, rfl⟩ := List.mem_map.1 hm
    exact Idn.lower_lower _
  have ne : ∀ v : List Bs, v ≠ [] ↔ Idn.insAll v ≠ [] := fun v => by
    constructor
    · intro h e; exact insAll_ne h (by rw [e]; rfl)
    · intro h e; exact h (by rw [e]; rfl)
  have hmem : ∀ m, m ∈ Idn.lows S ↔ m ∈ Idn.lows T := fun m => by
    constructor
    · intro hm
      have hl := low S m hm
      rw [Idn.mem_lows, ne, ← hv m hl, ← ne, ← Idn.mem_lows]; exact hm
    · intro hm
      have hl := low T m hm
      rw [Idn.mem_lows, ne, hv m hl, ← ne, ← Idn.mem_lows]; exact hm
  have e1 : Idn.insAll (Idn.lows S) = Idn.insAll (Idn.lows T) := Idn.uniq _ _ (Idn.insAll_lt _) (Idn.insAll_lt _) fun x => by rw [Idn.insAll_mem, Idn.insAll_mem]; exact hmem x
  unfold Idn.rSorted
  rw [e1]
  refine List.map_congr_left fun m hm => ?_
  rw [Idn.insAll_mem] at hm
  unfold Idn.rOne
  rw [hv m (low T m hm)]
theorem QN.ext {s : Idn.Sch} {S T : List Idn.Att} (h1 : QN s S) (h2 : QN s T) (h : ∀ m, rGet S m = rGet T m) : S = T := by
  rw [← h1.1, ← h2.1]; exact rSorted_ext h
theorem vErr_ok (old : List Bs) : ∀ (l p : List Bs), (∀ x ∈ l, Idn.clean x = true) → (∀ x ∈ l, x ∉ old) → (p ++ l).Nodup → vErr old p l = 0
  | [], _, _, _, _ => rfl
  | v :: l, p, h1, h2, h3 => by
    have hc : (old.contains v || p.contains v) = false := by
      rw [Bool.or_eq_false_iff, Bool.eq_false_iff, Bool.eq_false_iff]
      refine ⟨fun e => h2 v List.mem_cons_self (List.contains_iff_mem.1 e), fun e => ?_⟩
      rw [List.nodup_append] at h3
      exact h3.2.2 v (List.contains_iff_mem.1 e) v List.mem_cons_self rfl
    rw [Bool.or_eq_false_iff] at hc
    rw [vErr, h1 v List.mem_cons_self, hc.1, hc.2, if_neg (by decide), if_neg (by decide), if_neg (by decide)]
    exact vErr_ok old l (p ++ [v]) (fun x hx => h1 x (List.mem_cons_of_mem _ hx)) (fun x hx => h2 x (List.mem_cons_of_mem _ hx)) (by rw [List.append_assoc]; exact h3)
/-- values of a valid entry under a name -/
structure Val (s : Idn.Sch) (n : Bs) (v : List Bs) : Prop where
  nor : Nor s n v
  cln : ∀ x ∈ v, Idn.clean x = true
  srt : v.Pairwise (· < ·)
  len : v.length ≤ 16
theorem Val.nd {s : Idn.Sch} {n : Bs} {v : List Bs} (h : Val s n v) : v.Nodup := h.srt.imp fun h e => by subst e; exact List.lt_irrefl _ h
theorem sorted_insAll {v : List Bs} (h : v.Pairwise (· < ·)) : Idn.insAll v = v := Idn.uniq _ _ (Idn.insAll_lt _) h fun x => Idn.insAll_mem v x
theorem get_val {s : Idn.Sch} {A : List Idn.Att} (h : QN s A) (hc : Idn.aCheck A = 0) (n : Bs) : Val s n (rGet A n) := by
  refine ⟨rGet_nor h n, fun x hx => ?_, by rw [rGet_law]; exact Idn.insAll_lt _, ?_⟩
  · rw [rGet_law, Idn.insAll_mem] at hx
    obtain ⟨a, ha, _, hx⟩ := mem_valsOf.1 hx
    exact aCheck_clean hc a ha x hx
  · rw [rGet_eq h.full]
    unfold getL
    split
    · simp
    · split
      · simp
      · rename_i a ha
        have hm := List.mem_of_getElem? ha
        rw [← Idn.rSorted_eq h.full, h.1] at hm
        exact ((aCheck_zero hc).2 a hm).2
theorem rBad_ok (old : List Bs) : ∀ (l p : List Bs), (∀ x ∈ l, x ∈ old) → (p ++ l).Nodup → rBad old p l = false
  | [], _, _, _ => rfl
  | v :: l, p, h1, h2 => by
    have hc : p.contains v = false := by
      rw [Bool.eq_false_iff]
      intro e
      rw [List.nodup_append] at h2
      exact h2.2.2 v (List.contains_iff_mem.1 e) v List.mem_cons_self rfl
    have ho : old.contains v = true := List.contains_iff_mem.2 (h1 v List.mem_cons_self)
    rw [rBad, hc, ho]
    exact rBad_ok old l (p ++ [v]) (fun x hx => h1 x (List.mem_cons_of_mem _ hx)) (by rw [List.append_assoc]; exact h2)
theorem mem_minus {a b : List Bs} {x : Bs} : x ∈ minus a b ↔ x ∈ a ∧ x ∉ b := by
  unfold minus
  rw [List.mem_filter]
  constructor
  · rintro ⟨h1, h2⟩
    exact ⟨h1, fun h => by rw [List.contains_iff_mem.2 h] at h2; cases h2⟩
  · rintro ⟨h1, h2⟩
    refine ⟨h1, ?_⟩
    rw [Bool.not_eq_true', Bool.eq_false_iff]
    exact fun h => h2 (List.contains_iff_mem.1 h)
theorem ty_of {s : Idn.Sch} {n : Bs} {v : List Bs} (h : Nor s n v) (hn : v ≠ []) : (tyLook (sound s) n).2 = true := by
  cases v with
  | nil => exact absurd rfl hn
  | cons x v => exact (sNorm_ok (h x List.mem_cons_self)).1
theorem nodup_len : ∀ (a b : List Bs), a.Nodup → (∀ x ∈ a, x ∈ b) → a.length ≤ b.length
  | [], _, _, _ => Nat.zero_le _
  | x :: a, b, h, hs => by
    have hx := hs x List.mem_cons_self
    rw [List.nodup_cons] at h
    have h1 := nodup_len a (b.erase x) h.2 fun y hy => (List.mem_erase_of_ne (fun e => by subst e; exact h.1 hy)).2 (hs y (List.mem_cons_of_mem _ hy))
    rw [List.length_erase_of_mem hx] at h1
    have h2 := List.length_pos_of_mem hx
    simp only [List.length_cons]; omega
theorem len_le {S : List Idn.Att} {ns : List Bs} (h : S.map (·.name) |>.Nodup) (h2 : ∀ a ∈ S, a.name ∈ ns) : S.length ≤ ns.length := by
  have h3 : (S.map (·.name)).length ≤ ns.length := by
    refine nodup_len _ _ h fun x hx => ?_
    obtain ⟨a, ha, rfl⟩ := List.mem_map.1 hx
    exact h2 a ha
  simpa using h3
theorem lim_ok {S : List Idn.Att} {n : Bs} (h1 : S.length ≤ 32) (h2 : (rGet S n).length ≤ 16) : aLim S n = (S, 0) := by unfold aLim; rw [if_neg (by omega)]
theorem eMod_at {s : Idn.Sch} {S : List Idn.Att} {op : Int} {n : Bs} {v : List Bs} (h1 : 1 ≤ op) (h3 : op ≤ 3) (ht : (tyLook (sound s) n).2 = true) (hv : Nor s n v) (hd : v.Nodup) :
    eMod s S ⟨op, n, v⟩ = if op = 2 then aRemove S n v else if op = 1 then (if 0 < v.length then aAdd S n v else ([], 6)) else aReplace S n v := by
  unfold eMod
  dsimp only
  rw [if_neg (by omega), ht, if_neg (by decide), eAtt_id hv hd, if_neg (by simp)]
theorem one_mod {s : Idn.Sch} {S : List Idn.Att} {m : Md} {r : List Idn.Att} (h : eMod s S m = (r, 0)) (ms : List Md) : eModsK s S (m :: ms) = eModsK s r ms := by rw [eModsK, h, if_neg (by simp)]
theorem aAdd_ok {S : List Idn.Att} {n : Bs} {v : List Bs} (hnm : Idn.name n = true) (hv : v ≠ []) (hc : ∀ x ∈ v, Idn.clean x = true) (hd : (rGet S n ++ v).Nodup) (hl : (aSet (Idn.rSorted S) n (rGet S n ++ v)).length ≤ 32) (h16 : (rGet S n ++ v).length ≤ 16) :
    aAdd S n v = (aSet (Idn.rSorted S) n (rGet S n ++ v), 0) := by
  have hd' := List.nodup_append.1 hd
  have he : vErr (rGet S n) [] v = 0 := vErr_ok _ v [] hc (fun x hx ho => hd'.2.2 x ho x hx rfl) hd'.2.1
  have hv0 : v.length ≠ 0 := fun e => hv (List.eq_nil_of_length_eq_zero e)
  unfold aAdd
  rw [hnm, if_neg (by decide), if_neg hv0, he, if_neg (by decide)]
  exact lim_ok hl (by rw [aSet_get, Idn.insAll_length hd]; exact h16)
/-- a state with the values of one name turned -/
structure Turned (s : Idn.Sch) (S : List Idn.Att) (n : Bs) (v : List Bs) (S' : List Idn.Att) : Prop where
  q : QN s S'
  g : ∀ m, Idn.lower m = m → rGet S' m = if m = n then v else rGet S m
theorem set_turned {s : Idn.Sch} {S : List Idn.Att} {n : Bs} {v : List Bs} (hq : QN s S) (hn : Idn.lower n = n) (hv : Nor s n v) : Turned s S n (Idn.insAll v) (aSet (Idn.rSorted S) n v) :=
  ⟨hq.set hv, fun m hm => by rw [set_get, hm, hn]⟩
theorem Turned.trans {s : Idn.Sch} {S S' S'' : List Idn.Att} {n : Bs} {v v' : List Bs} (h : Turned s S n v S') (h' : Turned s S' n v' S'') : Turned s S n v' S'' :=
  ⟨h'.q, fun m hm => by
    rw [h'.g m hm]
    split
    · rfl
    · rename_i e; rw [h.g m hm, if_neg e]⟩
section
variable {s : Idn.Sch} {S : List Idn.Att} {n : Bs} {old new : List Bs}
theorem del_mods (hq : QN s S) (hn : Idn.lower n = n) (hnm : Idn.name n = true) (hty : (tyLook (sound s) n).2 = true) (vo : Val s n old) (gS : rGet S n = old) (ms : List Md) :
    ∃ S1, Turned s S n (old.filter fun x => new.contains x) S1 ∧ eModsK s S ((if 0 < (minus old new).length then [⟨2, n, minus old new⟩] else []) ++ ms) = eModsK s S1 ms := by
  by_cases h : 0 < (minus old new).length
  · rw [if_pos h]
    have hsub : ∀ x ∈ minus old new, x ∈ old := fun x hx => (mem_minus.1 hx).1
    have hnd : (minus old new).Nodup := vo.nd.filter _
    have hb := rBad_ok old (minus old new) [] hsub (by simpa using hnd)
    have hrm := rmK_law old vo.nd (minus old new) []
    have e : old.filter (fun x => !([] : List Bs).contains x) = old := by
      rw [List.filter_eq_self]; intro a _; rfl
    rw [e, hb, List.nil_append, if_neg (by decide)] at hrm
    have e2 : (old.filter fun x => !(minus old new).contains x) = old.filter fun x => new.contains x := by
      refine List.filter_congr fun x hx => ?_
      rw [Bool.eq_iff_iff, Bool.not_eq_true', Bool.eq_false_iff, Ne, List.contains_iff_mem, mem_minus, List.contains_iff_mem]
      constructor
      · intro h1; exact Decidable.byContradiction fun h2 => h1 ⟨hx, h2⟩
      · intro h1 h2; exact h2.2 h1
    rw [e2] at hrm
    have ho : old.length ≠ 0 := by
      intro e3
      have := List.eq_nil_of_length_eq_zero e3
      subst this
      exact absurd h (by rw [nil_minus]; decide)
    have hsr : (old.filter fun x => new.contains x).Pairwise (· < ·) := vo.srt.filter _
    have hno : Nor s n (old.filter fun x => new.contains x) := fun x hx => vo.nor x (List.mem_filter.1 hx).1
    refine ⟨aSet (Idn.rSorted S) n (old.filter fun x => new.contains x), ?_, ?_⟩
    · have := set_turned hq hn hno
      rw [sorted_insAll hsr] at this
      exact this
    · rw [List.singleton_append]
      refine one_mod ?_ ms
      rw [eMod_at (by decide) (by decide) hty (fun x hx => vo.nor x (hsub x hx)) hnd, if_pos rfl]
      unfold aRemove
      rw [hnm, if_neg (by decide), gS, if_neg ho, if_neg (by omega), hrm]
  · rw [if_neg h]
    refine ⟨S, ⟨hq, fun m hm => ?_⟩, rfl⟩
    split
    · rename_i e
      subst e
      rw [gS]
      symm
      rw [List.filter_eq_self]
      intro x hx
      rw [List.contains_iff_mem]
      refine Decidable.byContradiction fun h2 => h ?_
      exact List.length_pos_of_mem (mem_minus.2 ⟨hx, h2⟩)
    · rfl
theorem add_mods (hq : QN s S) (hn : Idn.lower n = n) (hnm : Idn.name n = true) (hty : (tyLook (sound s) n).2 = true) (vo : Val s n old) (vn : Val s n new) (gS : rGet S n = old.filter fun x => new.contains x) (hlen : ∀ S' v, Turned s S n v S' → S'.length ≤ 32) (ms : List Md) :
    ∃ S1, Turned s S n new S1 ∧ eModsK s S ((if 0 < (minus new old).length then [⟨1, n, minus new old⟩] else []) ++ ms) = eModsK s S1 ms := by
  have hmid : ∀ x, x ∈ (old.filter fun x => new.contains x) ↔ x ∈ old ∧ x ∈ new := fun x => by rw [List.mem_filter, List.contains_iff_mem]
  have hmnd : (old.filter fun x => new.contains x).Nodup := vo.nd.filter _
  have hms : (old.filter fun x => new.contains x).Pairwise (· < ·) := vo.srt.filter _
  by_cases h : 0 < (minus new old).length
  · rw [if_pos h]
    have hsub : ∀ x ∈ minus new old, x ∈ new := fun x hx => (mem_minus.1 hx).1
    have hnd : (minus new old).Nodup := vn.nd.filter _
    have hboth : ((old.filter fun x => new.contains x) ++ minus new old).Nodup := by
      rw [List.nodup_append]
      refine ⟨hmnd, hnd, fun a ha b hb e => ?_⟩
      subst e
      exact (mem_minus.1 hb).2 ((hmid a).1 ha).1
    have hins : Idn.insAll ((old.filter fun x => new.contains x) ++ minus new old) = new := by
      refine Idn.uniq _ _ (Idn.insAll_lt _) vn.srt fun x => ?_
      rw [Idn.insAll_mem, List.mem_append, hmid, mem_minus]
      constructor
      · rintro (h | h)
        · exact h.2
        · exact h.1
      · intro hx
        by_cases ho : x ∈ old
        · exact .inl ⟨ho, hx⟩
        · exact .inr ⟨hx, ho⟩
    have hno : Nor s n ((old.filter fun x => new.contains x) ++ minus new old) := fun x hx => by
      rcases List.mem_append.1 hx with hx | hx
      · exact vo.nor x ((hmid x).1 hx).1
      · exact vn.nor x (hsub x hx)
    have ht := set_turned hq hn hno
    rw [hins] at ht
    have hl16 : ((old.filter fun x => new.contains x) ++ minus new old).length ≤ 16 := by
      rw [← Idn.insAll_length hboth, hins]; exact vn.len
    refine ⟨_, ht, ?_⟩
    rw [List.singleton_append]
    refine one_mod ?_ ms
    rw [eMod_at (by decide) (by decide) hty (fun x hx => vn.nor x (hsub x hx)) hnd, if_neg (by decide), if_pos rfl, if_pos h]
    have hk := hlen _ _ ht
    have := aAdd_ok (S := S) (n := n) (v := minus new old) hnm (fun e => by rw [e] at h; exact absurd h (by decide)) (fun x hx => vn.cln x (hsub x hx)) (by rw [gS]; exact hboth) (by rw [gS]; exact hk) (by rw [gS]; exact hl16)
    rw [gS] at this
    exact this
  · rw [if_neg h]
    refine ⟨S, ⟨hq, fun m hm => ?_⟩, rfl⟩
    split
    · rename_i e
      subst e
      rw [gS]
      refine Idn.uniq _ _ hms vn.srt fun x => ?_
      rw [hmid]
      constructor
      · exact fun h => h.2
      · intro hx
        refine ⟨Decidable.byContradiction fun h2 => h ?_, hx⟩
        exact List.length_pos_of_mem (mem_minus.2 ⟨hx, h2⟩)
    · rfl
theorem turn_mods (hq : QN s S) (hn : Idn.lower n = n) (hnm : Idn.name n = true) (hty : (tyLook (sound s) n).2 = true) (vo : Val s n old) (vn : Val s n new) (gS : rGet S n = old) (hlen : ∀ S' v, Turned s S n v S' → S'.length ≤ 32) (ms : List Md) :
    ∃ S1, Turned s S n new S1 ∧ eModsK s S (difs n old new ++ ms) = eModsK s S1 ms := by
  unfold difs
  by_cases h0 : (minus old new).length + (minus new old).length = 0
  · rw [if_pos h0]
    refine ⟨S, ⟨hq, fun m hm => ?_⟩, rfl⟩
    split
    · rename_i e
      subst e
      rw [gS]
      have e1 := List.eq_nil_of_length_eq_zero (show (minus old new).length = 0 by omega)
      have e2 := List.eq_nil_of_length_eq_zero (show (minus new old).length = 0 by omega)
      refine Idn.uniq _ _ vo.srt vn.srt fun x => ?_
      constructor
      · intro hx
        refine Decidable.byContradiction fun hn => ?_
        have := mem_minus.2 ⟨hx, hn⟩
        rw [e1] at this; cases this
      · intro hx
        refine Decidable.byContradiction fun hn => ?_
        have := mem_minus.2 ⟨hx, hn⟩
        rw [e2] at this; cases this
    · rfl
  · rw [if_neg h0]
    by_cases hn0 : new.length = 0
    · rw [if_pos hn0]
      have hne := List.eq_nil_of_length_eq_zero hn0
      subst hne
      rw [minus_nil, nil_minus] at h0
      have hno : Nor s n [] := fun x hx => by cases hx
      refine ⟨_, set_turned hq hn hno, ?_⟩
      rw [List.singleton_append]
      refine one_mod ?_ ms
      rw [eMod_at (by decide) (by decide) hty hno (by simp), if_pos rfl]
      unfold aRemove
      rw [hnm, if_neg (by decide), gS, if_neg (by simpa using h0), if_pos (show ([] : List Bs).length = 0 from rfl)]
    · rw [if_neg hn0]
      by_cases ho0 : old.length = 0
      · rw [if_pos ho0]
        have hoe := List.eq_nil_of_length_eq_zero ho0
        subst hoe
        have ht := set_turned hq hn vn.nor
        rw [sorted_insAll vn.srt] at ht
        refine ⟨_, ht, ?_⟩
        rw [List.singleton_append]
        refine one_mod ?_ ms
        rw [eMod_at (by decide) (by decide) hty vn.nor vn.nd, if_neg (by decide), if_pos rfl, if_pos (Nat.pos_of_ne_zero hn0)]
        have hk := hlen _ _ ht
        have := aAdd_ok (S := S) (n := n) (v := new) hnm (fun e => hn0 (by rw [e]; rfl)) vn.cln (by rw [gS]; exact vn.nd) (by rw [gS]; exact hk) (by rw [gS]; exact vn.len)
        rw [gS] at this
        exact this
      · rw [if_neg ho0]
        by_cases hall : (minus old new).length = old.length
        · rw [if_pos hall]
          have ht := set_turned hq hn vn.nor
          rw [sorted_insAll vn.srt] at ht
          refine ⟨_, ht, ?_⟩
          rw [List.singleton_append]
          refine one_mod ?_ ms
          rw [eMod_at (by decide) (by decide) hty vn.nor vn.nd, if_neg (by decide), if_neg (by decide)]
          have hk := hlen _ _ ht
          have he : Idn.valsErr [] new = 0 := by rw [← vErr_nil]; exact vErr_ok [] new [] vn.cln (by simp) (by simpa using vn.nd)
          unfold aReplace
          rw [hnm, if_neg (by decide), he, if_neg (by decide), if_neg (by have := vn.len; omega)]
          exact lim_ok hk (by rw [aSet_get, sorted_insAll vn.srt]; exact vn.len)
        · rw [if_neg hall, List.append_assoc]
          obtain ⟨S1, t1, e1⟩ := del_mods (new := new) hq hn hnm hty vo gS ((if 0 < (minus new old).length then [⟨1, n, minus new old⟩] else []) ++ ms)
          have g1 : rGet S1 n = old.filter fun x => new.contains x := by rw [t1.g n hn, if_pos rfl]
          obtain ⟨S2, t2, e2⟩ := add_mods t1.q hn hnm hty vo vn g1 (fun S' v h => hlen S' v (t1.trans h)) ms
          exact ⟨S2, t1.trans t2, by rw [e1, e2]⟩
end
theorem all_mods {s : Idn.Sch} {A T : List Idn.Att} (hA : QN s A) (hT : QN s T) (cA : Idn.aCheck A = 0) (cT : Idn.aCheck T = 0) {all : List Bs} (hall : ∀ m, Idn.lower m = m → (rGet A m ≠ [] ∨ rGet T m ≠ []) → m ∈ all) (hl : all.length ≤ 32) :
    ∀ (ns : List Bs) (S : List Idn.Att), QN s S → (∀ m ∈ ns, m ∈ all ∧ Idn.lower m = m ∧ Idn.name m = true ∧ (rGet A m ≠ [] ∨ rGet T m ≠ [])) → ns.Nodup → (∀ m, Idn.lower m = m → rGet S m = if m ∈ ns then rGet A m else rGet T m) →
      eModsK s S (ns.flatMap fun n => difs n (rGet A n) (rGet T n)) = (T, 0)
  | [], S, hq, _, _, hg => by
    have : S = T := hq.ext hT fun m => by
      have h := hg (Idn.lower m) (Idn.lower_lower m)
      rw [rGet_law, rGet_law]
      rw [if_neg (by simp), rGet_law, rGet_law, Idn.lower_lower] at h
      exact h
    rw [this]; rfl
  | n :: ns, S, hq, hns, hnd, hg => by
    obtain ⟨h1, h2, h3, h4⟩ := hns n List.mem_cons_self
    rw [List.nodup_cons] at hnd
    have vA := get_val hA cA n
    have vT := get_val hT cT n
    have hty : (tyLook (sound s) n).2 = true := by
      rcases h4 with e | e
      · exact ty_of vA.nor e
      · exact ty_of vT.nor e
    have gS : rGet S n = rGet A n := by rw [hg n h2, if_pos List.mem_cons_self]
    have hlen : ∀ S' v, Turned s S n v S' → S'.length ≤ 32 := fun S' v ht => by
      refine Nat.le_trans (len_le (ns := all) ?_ fun a ha => ?_) hl
      · have := rSorted_pw S'
        rw [ht.q.1] at this
        exact this.imp fun h e => by rw [e] at h; exact List.lt_irrefl _ h
      · have hn := ht.q.name a ha
        have hne : rGet S' a.name ≠ [] := by
          rw [rGet_law, hn]
          intro e
          have h1 : Idn.valsOf S' a.name ≠ [] := by
            rw [← Idn.mem_lows]
            unfold Idn.lows
            exact List.mem_map.2 ⟨a, List.mem_filter.2 ⟨ha, by have := ht.q.full a ha; simpa using Nat.pos_of_ne_zero this⟩, hn⟩
          exact insAll_ne h1 (by rw [e]; rfl)
        rw [ht.g a.name hn] at hne
        by_cases e : a.name = n
        · rw [e]; exact h1
        · rw [if_neg e, hg a.name hn] at hne
          refine hall a.name hn ?_
          split at hne
          · exact .inl hne
          · exact .inr hne
    rw [List.flatMap_cons]
    obtain ⟨S1, t, e⟩ := turn_mods hq h2 h3 hty vA vT gS hlen (ns.flatMap fun n => difs n (rGet A n) (rGet T n))
    rw [e]
    refine all_mods hA hT cA cT hall hl ns S1 t.q (fun m hm => hns m (List.mem_cons_of_mem _ hm)) hnd.2 fun m hm => ?_
    rw [t.g m hm]
    by_cases e1 : m = n
    · rw [if_pos e1, if_neg (by rw [e1]; exact hnd.1), e1]
    · rw [if_neg e1, hg m hm]
      simp [e1]
/-- how many names of the second list the first has no values of -/
def moreN (A T : List Idn.Att) : Nat := (T.filter fun b => decide ((rGet A b.name).length = 0)).length
theorem names_get {s : Idn.Sch} {A : List Idn.Att} (h : QN s A) {m : Bs} (hm : Idn.lower m = m) : rGet A m ≠ [] ↔ m ∈ A.map (·.name) := by
  constructor
  · intro hne
    obtain ⟨a, ha, e⟩ := rGet_mem_name hne
    rw [h.name a ha, hm] at e
    exact List.mem_map.2 ⟨a, ha, e⟩
  · intro hx
    obtain ⟨a, ha, rfl⟩ := List.mem_map.1 hx
    rw [rGet_law, hm]
    intro e
    have h1 : Idn.valsOf A a.name ≠ [] := by
      rw [← Idn.mem_lows]
      unfold Idn.lows
      exact List.mem_map.2 ⟨a, List.mem_filter.2 ⟨ha, by have := h.full a ha; simpa using Nat.pos_of_ne_zero this⟩, hm⟩
    exact insAll_ne h1 (by rw [e]; rfl)
theorem names_of {s : Idn.Sch} {A : List Idn.Att} (h : QN s A) : namesL A = A.map (·.name) := by rw [← rNames_l h.full, h.1]
theorem difs_nil {n : Bs} {old new : List Bs} (h : difs n old new = []) : ∀ x, x ∈ old ↔ x ∈ new := by
  unfold difs at h
  split at h
  · rename_i h0
    have e1 := List.eq_nil_of_length_eq_zero (show (minus old new).length = 0 by omega)
    have e2 := List.eq_nil_of_length_eq_zero (show (minus new old).length = 0 by omega)
    intro x
    constructor
    · intro hx
      refine Decidable.byContradiction fun hn => ?_
      have := mem_minus.2 ⟨hx, hn⟩
      rw [e1] at this; cases this
    · intro hx
      refine Decidable.byContradiction fun hn => ?_
      have := mem_minus.2 ⟨hx, hn⟩
      rw [e2] at this; cases this
  · split at h
    · cases h
    · split at h
      · cases h
      · split at h
        · cases h
        · rename_i h0 h1 h2 h3
          exfalso
          rw [List.append_eq_nil_iff] at h
          by_cases e : 0 < (minus old new).length
          · rw [if_pos e] at h; cases h.1
          · by_cases e2 : 0 < (minus new old).length
            · rw [if_pos e2] at h; cases h.2
            · omega
theorem difs_self (n : Bs) (v : List Bs) : difs n v v = [] := by
  have : minus v v = [] := List.eq_nil_iff_forall_not_mem.2 fun x hx => (mem_minus.1 hx).2 (mem_minus.1 hx).1
  unfold difs
  rw [this, if_pos (by rfl)]
/-- the difference of two normal entries turns the one into the other -/
theorem turns_law {s : Idn.Sch} {n : Bs} {A T : List Idn.Att} (hA : eNormal s n A = ((n, A), 0)) (hT : eNormal s n T = ((n, T), 0)) :
    ((eDiff n A n T).length ≤ 32 → A.length + moreN A T ≤ 32 → eApply s n A (eDiff n A n T) = ((n, T), 0)) ∧ ((eDiff n A n T).length = 0 ↔ Idn.rSorted A = Idn.rSorted T) := by
  obtain ⟨c1, c2, qA, vA⟩ := nf_parts hA
  obtain ⟨_, _, qT, vT⟩ := nf_parts hT
  dsimp only at c1 c2 qA vA qT vT
  have cA := sValid_check vA
  have cT := sValid_check vT
  have hvn : validN n = true := by unfold validN; rw [c1]; simp
  have k1 : eCheck n A = 0 := by unfold eCheck; rw [hvn, cA]; simp [c2]
  have k2 : eCheck n T = 0 := by unfold eCheck; rw [hvn, cT]; simp [c2]
  have hD : eDiff n A n T = (Idn.insAll (namesL A ++ namesL T)).flatMap fun x => difs x (rGet A x) (rGet T x) := by
    unfold eDiff
    rw [k1, k2, if_neg (by decide), show Lib.compact (Idn.srt (namesL A ++ namesL T)) = Idn.insAll (namesL A ++ namesL T) from Idn.law _]
    refine flat_congr fun x _ => ?_
    rw [rGet_eq qA.full, rGet_eq qT.full]
  have hmem : ∀ m, m ∈ Idn.insAll (namesL A ++ namesL T) ↔ m ∈ A.map (·.name) ∨ m ∈ T.map (·.name) := fun m => by rw [Idn.insAll_mem, List.mem_append, names_of qA, names_of qT]
  have hlow : ∀ m, m ∈ Idn.insAll (namesL A ++ namesL T) → Idn.lower m = m := fun m hm => by
    rcases (hmem m).1 hm with h | h
    · obtain ⟨a, ha, rfl⟩ := List.mem_map.1 h; exact qA.name a ha
    · obtain ⟨a, ha, rfl⟩ := List.mem_map.1 h; exact qT.name a ha
  have hnm : ∀ m, m ∈ Idn.insAll (namesL A ++ namesL T) → Idn.name m = true := fun m hm => by
    rcases (hmem m).1 hm with h | h
    · obtain ⟨a, ha, rfl⟩ := List.mem_map.1 h; exact ((Idn.aCheck_all cA).2.2 a ha).1
    · obtain ⟨a, ha, rfl⟩ := List.mem_map.1 h; exact ((Idn.aCheck_all cT).2.2 a ha).1
  have hnd := Idn.insAll_nodup (namesL A ++ namesL T)
  rw [hD]
  generalize Idn.insAll (namesL A ++ namesL T) = ns at *
  have hsome : ∀ m, Idn.lower m = m → ((rGet A m ≠ [] ∨ rGet T m ≠ []) ↔ m ∈ ns) := fun m hm => by rw [hmem, names_get qA hm, names_get qT hm]
  refine ⟨fun hd hl => ?_, ?_⟩
  · have hlen : ns.length ≤ 32 := by
      refine Nat.le_trans ?_ hl
      have h1 : ns.length ≤ (A.map (·.name) ++ (T.filter fun b => decide ((rGet A b.name).length = 0)).map (·.name)).length := by
        refine nodup_len _ _ hnd fun x hx => ?_
        rw [List.mem_append]
        by_cases hxA : x ∈ A.map (·.name)
        · exact .inl hxA
        · right
          have hxl := hlow x hx
          rcases (hmem x).1 hx with h | h
          · exact absurd h hxA
          · obtain ⟨b, hb, rfl⟩ := List.mem_map.1 h
            refine List.mem_map.2 ⟨b, List.mem_filter.2 ⟨hb, ?_⟩, rfl⟩
            have : ¬ rGet A b.name ≠ [] := fun e => hxA ((names_get qA hxl).1 e)
            rw [Decidable.not_not] at this
            rw [this]; rfl
      simpa [moreN] using h1
    have hmods : eModsK s A (ns.flatMap fun n => difs n (rGet A n) (rGet T n)) = (T, 0) := by
      refine all_mods qA qT cA cT (fun m hm h => (hsome m hm).1 h) hlen ns A qA (fun m hm => ⟨hm, hlow m hm, hnm m hm, (hsome m (hlow m hm)).2 hm⟩) hnd fun m hm => ?_
      split
      · rfl
      · rename_i h
        rw [← hsome m hm, not_or, Decidable.not_not, Decidable.not_not] at h
        rw [h.1, h.2]
    unfold eApply
    rw [hA]
    dsimp only
    rw [if_neg (by rw [sameV_refl]; simp), if_neg (by omega), hmods, if_neg (by simp)]
    unfold eOut
    rw [vT]; rfl
  · constructor
    · intro h
      have h0 := List.eq_nil_of_length_eq_zero h
      rw [List.flatMap_eq_nil_iff] at h0
      refine rSorted_ext fun m => ?_
      have hk : ∀ m, Idn.lower m = m → rGet A m = rGet T m := fun m hm => by
        by_cases hx : m ∈ ns
        · have := difs_nil (h0 m hx)
          exact Idn.uniq _ _ (get_val qA cA m).srt (get_val qT cT m).srt this
        · rw [← hsome m hm, not_or, Decidable.not_not, Decidable.not_not] at hx
          rw [hx.1, hx.2]
      have := hk (Idn.lower m) (Idn.lower_lower m)
      rw [rGet_law, rGet_law, Idn.lower_lower] at this
      rw [rGet_law, rGet_law]; exact this
    · intro h
      have e : A = T := by rw [qA.1, qT.1] at h; exact h
      subst e
      have : (ns.flatMap fun x => difs x (rGet A x) (rGet A x)) = [] := by
        rw [List.flatMap_eq_nil_iff]
        intro x _
        exact difs_self x _
      rw [this]; rfl
end Go.Proofs.YtoopoglkeeoamaaGreatDoor
/- The values of the small case of identitylaw08, reckoned. -/
namespace Go.Proofs.YtoopoglkeeoamaaGreatDoor
open Go.RowKit Go.Sort
open Idn (L B Bs)
namespace E8
def personN : Bs := [112, 101, 114, 115, 111, 110]
def cnN : Bs := [99, 110]
def snN : Bs := [115, 110]
def numN : Bs := [110, 117, 109]
def smallS : Idn.Sch := ⟨[⟨Idn.mainN, 1, false⟩, ⟨cnN, 1, false⟩, ⟨snN, 1, false⟩, ⟨numN, 3, false⟩], [⟨personN, [], [Idn.mainN, cnN], [snN, numN]⟩]⟩
def annN : Bs := [99, 110, 61, 97, 110, 110]
def CNN : Bs := [67, 78, 61, 65, 110, 110]
def ClassN : Bs := [67, 108, 97, 115, 115]
def rawL : List Idn.Att := [⟨ClassN, [personN]⟩, ⟨cnN, [[65, 110, 110]]⟩, ⟨numN, [[55]]⟩]
def midL : List Idn.Att := [⟨ClassN, [personN]⟩, ⟨cnN, [[97, 110, 110]]⟩, ⟨numN, [[55]]⟩]
def norL : List Idn.Att := [⟨Idn.mainN, [personN]⟩, ⟨cnN, [[97, 110, 110]]⟩, ⟨numN, [[55]]⟩]
def bobL : List Idn.Att := [⟨Idn.mainN, [personN]⟩, ⟨cnN, [[98, 111, 98]]⟩, ⟨numN, [[55]]⟩]
def snL : List Idn.Att := [⟨snN, [[97, 32, 98]]⟩]
def oneL : List Idn.Att := [⟨numN, [[49], [50]]⟩]
def twoL : List Idn.Att := [⟨numN, [[50], [51]]⟩]
def textB : Bs := [101, 110, 116, 114, 121, 32, 99, 110, 37, 51, 68, 97, 110, 110, 10, 115, 110, 32, 97, 37, 50, 48, 98, 10]
theorem ev_check : Idn.sCheck smallS = 0 := by kernel_rfl
theorem ev_sound : sound smallS = smallS := by rw [sound, if_pos ev_check]
theorem small_ssm : SSm smallS := by unfold SSm TSm CSm Sm smallS; decide
theorem ev_c1 : eCheck annN [] = 0 := by kernel_rfl
theorem ev_c2 : eCheck [] [] = 5 := by kernel_rfl
theorem ev_c3 : eCheck annN snL = 0 := by kernel_rfl
theorem ev_c4 : eCheck annN oneL = 0 := by kernel_rfl
theorem ev_c5 : eCheck annN twoL = 0 := by kernel_rfl
theorem sn_srt : Idn.aSorted snL = snL := by
  have h : (Idn.grp [] snL).map Idn.normA = snL := by kernel_rfl
  unfold Idn.aSorted
  rw [h]; simp [List.mergeSort, snL]
theorem ev_text : eText annN snL = (textB, 0) := by
  unfold eText
  rw [ev_c3, if_neg (by decide), sn_srt]
  kernel_rfl
theorem srt12 (a b : Bs) (h : decide (a ≤ b) = true) : Idn.srt [a, b] = [a, b] := by
  unfold Idn.srt
  simp [List.mergeSort, List.MergeSort.Internal.splitInTwo, List.merge, h, -decide_eq_true_eq]
theorem one_srt : Idn.aSorted oneL = oneL := by
  have h : (Idn.grp [] oneL).map Idn.normA = [⟨numN, Lib.compact (Idn.srt [[49], [50]])⟩] := by kernel_rfl
  unfold Idn.aSorted
  rw [h, srt12 _ _ (by decide)]
  have h2 : Lib.compact ([[49], [50]] : List Bs) = [[49], [50]] := by kernel_rfl
  rw [h2]; simp [List.mergeSort, oneL]
theorem two_srt : Idn.aSorted twoL = twoL := by
  have h : (Idn.grp [] twoL).map Idn.normA = [⟨numN, Lib.compact (Idn.srt [[50], [51]])⟩] := by kernel_rfl
  unfold Idn.aSorted
  rw [h, srt12 _ _ (by decide)]
  have h2 : Lib.compact ([[50], [51]] : List Bs) = [[50], [51]] := by kernel_rfl
  rw [h2]; simp [List.mergeSort, twoL]
theorem ev_diff : eDiff annN oneL annN twoL = [⟨2, numN, [[49]]⟩, ⟨1, numN, [[51]]⟩] := by
  unfold eDiff
  rw [ev_c4, ev_c5, if_neg (by decide)]
  have n1 : namesL oneL = [numN] := by unfold namesL; rw [one_srt]; rfl
  have n2 : namesL twoL = [numN] := by unfold namesL; rw [two_srt]; rfl
  have g1 : getL oneL numN = [[49], [50]] := by unfold getL; rw [one_srt]; kernel_rfl
  have g2 : getL twoL numN = [[50], [51]] := by unfold getL; rw [two_srt]; kernel_rfl
  rw [n1, n2]
  show (Lib.compact (Idn.srt [numN, numN])).flatMap _ = _
  rw [srt12 _ _ (by decide)]
  have h2 : Lib.compact [numN, numN] = [numN] := by kernel_rfl
  rw [h2]
  show difs numN (getL oneL numN) (getL twoL numN) ++ [] = _
  rw [g1, g2]
  kernel_rfl
theorem mrg3 {a b c : Idn.Att} {le : Idn.Att → Idn.Att → Bool} (h1 : le a b = true) (h2 : le b c = true) (h3 : le a c = true) : [a, b, c].mergeSort le = [a, b, c] := by
  simp [List.mergeSort, List.MergeSort.Internal.splitInTwo, List.merge, h1, h2, h3]
theorem raw_low : byLow rawL = rawL := by unfold byLow rawL; exact mrg3 (by decide) (by decide) (by decide)
theorem nor_low : byLow norL = norL := by unfold byLow norL; exact mrg3 (by decide) (by decide) (by decide)
theorem mid_srt : Idn.aSorted midL = norL := by
  have h : (Idn.grp [] midL).map Idn.normA = norL := by kernel_rfl
  unfold Idn.aSorted
  rw [h]; unfold norL; exact mrg3 (by decide) (by decide) (by decide)
theorem nor_srt : Idn.aSorted norL = norL := by
  have h : (Idn.grp [] norL).map Idn.normA = norL := by kernel_rfl
  unfold Idn.aSorted
  rw [h]; unfold norL; exact mrg3 (by decide) (by decide) (by decide)
theorem bob_srt : Idn.aSorted bobL = bobL := by
  have h : (Idn.grp [] bobL).map Idn.normA = bobL := by kernel_rfl
  unfold Idn.aSorted
  rw [h]; unfold bobL; exact mrg3 (by decide) (by decide) (by decide)
theorem cmpM : Lib.compact [Idn.mainN, cnN] = [Idn.mainN, cnN] := by kernel_rfl
theorem cmp4 : Lib.compact [Idn.mainN, cnN, numN, snN] = [Idn.mainN, cnN, numN, snN] := by kernel_rfl
theorem ev_must : mustL smallS personN = [Idn.mainN, cnN] := by
  have h : (((Idn.lin smallS personN).filterMap (smallS.classes[·]?)).flatMap (·.must)).map Idn.lower = [Idn.mainN, cnN] := by kernel_rfl
  unfold mustL merged
  rw [h]
  have e : sorted [Idn.mainN, cnN] = [Idn.mainN, cnN] := srt12 _ _ (by decide)
  rw [e, cmpM]
theorem srt4 : sorted [Idn.mainN, cnN, snN, numN] = [Idn.mainN, cnN, numN, snN] := by
  unfold sorted
  have e1 : decide (Idn.mainN ≤ cnN) = true := by decide
  have e2 : decide (snN ≤ numN) = false := by decide
  have e3 : decide (Idn.mainN ≤ numN) = true := by decide
  have e4 : decide (cnN ≤ numN) = true := by decide
  simp [List.mergeSort, List.MergeSort.Internal.splitInTwo, List.merge, e1, e2, e3, e4, -decide_eq_true_eq, -decide_eq_false_iff_not]
theorem ev_may : mayL smallS personN = [Idn.mainN, cnN, numN, snN] := by
  have h : (mustL smallS personN ++ ((Idn.lin smallS personN).filterMap (smallS.classes[·]?)).flatMap (·.may)).map Idn.lower = [Idn.mainN, cnN, snN, numN] := by
    rw [ev_must]; kernel_rfl
  unfold mayL merged
  rw [h, srt4, cmp4]
theorem ev_cl : classedB smallS [Idn.mainN, cnN, numN] [personN] = true := by
  have h0 : Idn.fold personN = personN := by kernel_rfl
  have h1 : clKey smallS personN = true := by kernel_rfl
  unfold classedB clsGo clsGo
  rw [h0, h1, ev_must, ev_may]
  decide
theorem ev_v1 : sValid smallS norL = 0 := by
  have a : Idn.aCheck norL = 0 := by kernel_rfl
  have g : vGo smallS norL = 0 := by kernel_rfl
  have n : namesL norL = [Idn.mainN, cnN, numN] := by unfold namesL; rw [nor_srt]; rfl
  have c : getL norL Idn.mainN = [personN] := by unfold getL; rw [nor_srt]; kernel_rfl
  unfold sValid
  rw [a, ev_sound, g, n, c, ev_cl]
  rfl
theorem ev_v2 : sValid smallS bobL = 0 := by
  have a : Idn.aCheck bobL = 0 := by kernel_rfl
  have g : vGo smallS bobL = 0 := by kernel_rfl
  have n : namesL bobL = [Idn.mainN, cnN, numN] := by unfold namesL; rw [bob_srt]; rfl
  have c : getL bobL Idn.mainN = [personN] := by unfold getL; rw [bob_srt]; kernel_rfl
  unfold sValid
  rw [a, ev_sound, g, n, c, ev_cl]
  rfl
theorem ev_raw : eAttsK smallS [] rawL = (midL, 0) := by
  unfold eAttsK eAtt eVals eValsK sNorm
  rw [ev_sound]
  kernel_rfl
theorem ev_nor : eAttsK smallS [] norL = (norL, 0) := by
  unfold eAttsK eAtt eVals eValsK sNorm
  rw [ev_sound]
  kernel_rfl
theorem ev_n1 : eNormal smallS CNN rawL = ((annN, norL), 0) := by
  have c : Idn.cleanN CNN = (annN, 0) := by kernel_rfl
  have a : Idn.aCheck rawL = 0 := by kernel_rfl
  unfold eNormal eOut
  rw [c, a, raw_low, ev_raw, mid_srt, ev_v1]
  rfl
theorem ev_n2 : eNormal smallS annN norL = ((annN, norL), 0) := by
  have c : Idn.cleanN annN = (annN, 0) := by kernel_rfl
  have a : Idn.aCheck norL = 0 := by kernel_rfl
  unfold eNormal eOut
  rw [c, a, nor_low, ev_nor, nor_srt, ev_v1]
  rfl
theorem ev_mod : eMod smallS norL ⟨3, cnN, [[66, 111, 98]]⟩ = (bobL, 0) := by
  unfold eMod eAtt eVals eValsK sNorm
  rw [ev_sound]
  kernel_rfl
theorem ev_apply : eApply smallS annN norL [⟨3, cnN, [[66, 111, 98]]⟩] = ((annN, bobL), 0) := by
  have h1 : eModsK smallS norL [⟨3, cnN, [[66, 111, 98]]⟩] = (bobL, 0) := by
    unfold eModsK
    rw [ev_mod]; rfl
  have h2 : eOut smallS annN bobL = ((annN, bobL), 0) := by unfold eOut; rw [ev_v2]; rfl
  unfold eApply
  rw [ev_n2, h1]
  show (if _ then _ else if _ then _ else if _ then _ else eOut smallS annN bobL) = _
  rw [h2]
  kernel_rfl
end E8
end Go.Proofs.YtoopoglkeeoamaaGreatDoor
