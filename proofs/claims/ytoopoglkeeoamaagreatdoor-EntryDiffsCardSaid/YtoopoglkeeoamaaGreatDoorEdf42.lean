/- Part 42 of the proof that EntryDiffs: the package variables hold what the program lays; nothing else is asked. -/
import Derived.Test.YtoopoglkeeoamaaGreatDoorEdf28
import Derived.Test.YtoopoglkeeoamaaGreatDoorEdf37
import Derived.KernelRfl
set_option linter.unusedVariables false
set_option linter.unusedSimpArgs false
/- Plain laws: the changes of attributes by the reference are the layer's; differences. -/
namespace Idn
open Go
theorem find_name (f : Bs → Att) (hf : ∀ n, (f n).name = n) (n : Bs) : ∀ ns : List Bs, (match (ns.map f).findIdx? (fun a => decide (a.name = n)) with
    | none => []
    | some k => match (ns.map f)[k]? with | none => [] | some a => a.vals) = if n ∈ ns then (f n).vals else []
  | [] => by simp
  | m :: ns => by
    have ih := find_name f hf n ns
    rw [List.map_cons, List.findIdx?_cons, hf m]
    by_cases h : m = n
    · subst h; simp
    · have hn : n ≠ m := fun e => h e.symm
      simp only [h, decide_false, Bool.false_eq_true, if_false, List.mem_cons, hn, false_or]
      rw [← ih]
      cases (ns.map f).findIdx? (fun a => decide (a.name = n)) with
      | none => rfl
      | some k => simp
theorem insAll_nodup (v : List Bs) : (insAll v).Nodup := (insAll_lt v).imp fun h e => by subst e; exact List.lt_irrefl _ h
theorem valsOf_app (x y : List Att) (n : Bs) : valsOf (x ++ y) n = valsOf x n ++ valsOf y n := by unfold valsOf; rw [List.filter_append, List.flatMap_append]
theorem rSorted_name {l : List Att} {a : Att} (h : a ∈ rSorted l) : lower a.name = a.name := by
  unfold rSorted at h
  obtain ⟨m, hm, rfl⟩ := List.mem_map.1 h
  rw [insAll_mem] at hm
  unfold lows at hm
  obtain ⟨b, _, rfl⟩ := List.mem_map.1 hm
  exact lower_lower _
def rWo (l : List Att) (n : Bs) : List Att := (rSorted l).filter fun a => !decide (a.name = lower n)
theorem rWo_none (l : List Att) (n : Bs) : valsOf (rWo l n) (lower n) = [] := by
  unfold valsOf
  rw [List.flatMap_eq_nil_iff]
  intro a ha
  rw [List.mem_filter] at ha
  unfold rWo at ha
  rw [List.mem_filter] at ha
  have h1 := rSorted_name ha.1.1
  have h2 := ha.1.2
  have h3 := ha.2
  rw [h1] at h3
  simp at h2 h3
  exact absurd h3 h2
end Idn
namespace Go.Proofs.YtoopoglkeeoamaaGreatDoor
open Go.RowKit Go.Sort
open Idn (L B Bs)
theorem rGet_law (l : List Idn.Att) (n : Bs) : rGet l n = Idn.insAll (Idn.valsOf l (Idn.lower n)) := by
  unfold rGet Idn.rSorted
  refine Eq.trans (Idn.find_name (Idn.rOne l) (fun _ => rfl) (Idn.lower n) (Idn.insAll (Idn.lows l))) ?_
  split
  · rfl
  · rename_i h
    rw [Idn.insAll_mem, Idn.mem_lows] at h
    rw [Decidable.not_not.1 h]; rfl
theorem valsOf_sorted (m : List Idn.Att) (n : Bs) : Idn.valsOf (Idn.rSorted m) (Idn.lower n) = Idn.insAll (Idn.valsOf m (Idn.lower n)) := by
  unfold Idn.rSorted
  have hlow : ∀ x ∈ Idn.insAll (Idn.lows m), Idn.lower x = x := fun x hx => by
    rw [Idn.insAll_mem] at hx
    unfold Idn.lows at hx
    obtain ⟨b, _, rfl⟩ := List.mem_map.1 hx
    exact Idn.lower_lower _
  have hnd := Idn.insAll_nodup (Idn.lows m)
  have hmem : Idn.lower n ∈ Idn.insAll (Idn.lows m) ↔ Idn.valsOf m (Idn.lower n) ≠ [] := by rw [Idn.insAll_mem, Idn.mem_lows]
  generalize Idn.insAll (Idn.lows m) = ns at *
  have key : ∀ ns : List Bs, (∀ x ∈ ns, Idn.lower x = x) → ns.Nodup → Idn.valsOf (ns.map (Idn.rOne m)) (Idn.lower n) = if Idn.lower n ∈ ns then Idn.insAll (Idn.valsOf m (Idn.lower n)) else [] := by
    intro ns
    induction ns with
    | nil => intro _ _; rfl
    | cons x ns ih =>
      intro h1 h2
      rw [List.nodup_cons] at h2
      have ih := ih (fun y hy => h1 y (List.mem_cons_of_mem _ hy)) h2.2
      have hx := h1 x List.mem_cons_self
      unfold Idn.valsOf at ih ⊢
      rw [List.map_cons]
      by_cases he : x = Idn.lower n
      · have hn : Idn.lower n ∉ ns := he ▸ h2.1
        rw [if_neg hn] at ih
        rw [List.filter_cons_of_pos (by show decide (Idn.lower x = Idn.lower n) = true; rw [hx, he]; simp), List.flatMap_cons, ih, List.append_nil, if_pos (by rw [he]; exact List.mem_cons_self)]
        show Idn.insAll (Idn.valsOf m x) = _
        rw [he]; rfl
      · rw [List.filter_cons_of_neg (by show ¬ decide (Idn.lower x = Idn.lower n) = true; rw [hx]; simpa using he), ih]
        have : Idn.lower n ∈ x :: ns ↔ Idn.lower n ∈ ns := by
          rw [List.mem_cons]
          exact ⟨fun h => h.resolve_left fun e => he e.symm, .inr⟩
        simp only [this]
  rw [key ns hlow hnd]
  split
  · rfl
  · rename_i h
    rw [hmem, Decidable.not_not] at h
    rw [h]; rfl
theorem insAll_idem (v : List Bs) : Idn.insAll (Idn.insAll v) = Idn.insAll v := Idn.uniq _ _ (Idn.insAll_lt _) (Idn.insAll_lt _) fun x => by rw [Idn.insAll_mem]
theorem rGet_sorted (m : List Idn.Att) (n : Bs) : rGet (Idn.rSorted m) n = rGet m n := by rw [rGet_law, rGet_law, valsOf_sorted, insAll_idem]
theorem aSet_get (l : List Idn.Att) (n : Bs) (v : List Bs) : rGet (aSet (Idn.rSorted l) n v) n = Idn.insAll v := by
  have e : aSet (Idn.rSorted l) n v = Idn.rSorted (Idn.rWo l n ++ [⟨Idn.lower n, v⟩]) := by unfold aSet Idn.rWo; rfl
  rw [e, rGet_sorted, rGet_law, Idn.valsOf_app, Idn.rWo_none, List.nil_append]
  congr 1
  unfold Idn.valsOf
  simp [Idn.lower_lower]
/-- differences by the reference -/
def lookA (x : List Idn.Att) (n : Bs) : List Bs := match x.find? (fun a => decide (a.name = n)) with | none => [] | some a => a.vals
def rDif (a b : Idn.Att) : List Md :=
  if (minus a.vals b.vals).length = a.vals.length then [⟨3, b.name, b.vals⟩]
  else (if 0 < (minus a.vals b.vals).length then [⟨2, a.name, minus a.vals b.vals⟩] else []) ++ (if 0 < (minus b.vals a.vals).length then [⟨1, b.name, minus b.vals a.vals⟩] else [])
def rDiffK : List Idn.Att → List Idn.Att → List Md
  | [], [] => []
  | a :: x, [] => ⟨2, a.name, []⟩ :: rDiffK x []
  | [], b :: y => ⟨1, b.name, b.vals⟩ :: rDiffK [] y
  | a :: x, b :: y => if a.name < b.name then ⟨2, a.name, []⟩ :: rDiffK x (b :: y) else if b.name < a.name then ⟨1, b.name, b.vals⟩ :: rDiffK (a :: x) y else rDif a b ++ rDiffK x y
termination_by x y => x.length + y.length
theorem minus_nil (a : List Bs) : minus a [] = a := by unfold minus; rw [List.filter_eq_self]; intro x _; rfl
theorem nil_minus (a : List Bs) : minus [] a = [] := rfl
theorem difs_left {n : Bs} {a : List Bs} (h : a.length ≠ 0) : difs n a [] = [⟨2, n, []⟩] := by
  unfold difs
  rw [minus_nil, nil_minus, if_neg (by simp; intro e; exact h (by rw [e]; rfl)), if_pos (show ([] : List Bs).length = 0 from rfl)]
theorem difs_right {n : Bs} {b : List Bs} (h : b.length ≠ 0) : difs n [] b = [⟨1, n, b⟩] := by
  unfold difs
  rw [minus_nil, nil_minus, if_neg (by simp; intro e; exact h (by rw [e]; rfl)), if_neg h, if_pos (show ([] : List Bs).length = 0 from rfl)]
theorem difs_both {a b : Idn.Att} (h : a.name = b.name) (ha : a.vals.length ≠ 0) (hb : b.vals.length ≠ 0) : rDif a b = difs a.name a.vals b.vals := by
  unfold difs rDif
  by_cases h0 : (minus a.vals b.vals).length + (minus b.vals a.vals).length = 0
  · rw [if_pos h0, if_neg (by omega), if_neg (by omega), if_neg (by omega)]; rfl
  · rw [if_neg h0, if_neg hb, if_neg ha, h]
theorem lookA_head (a : Idn.Att) (x : List Idn.Att) : lookA (a :: x) a.name = a.vals := by unfold lookA; rw [List.find?_cons_of_pos (by simp)]
theorem lookA_tail {a : Idn.Att} (x : List Idn.Att) {n : Bs} (h : a.name ≠ n) : lookA (a :: x) n = lookA x n := by unfold lookA; rw [List.find?_cons_of_neg (by simpa using h)]
theorem lookA_none {x : List Idn.Att} {n : Bs} (h : ∀ a ∈ x, a.name ≠ n) : lookA x n = [] := by
  unfold lookA
  rw [List.find?_eq_none.2 fun a ha => by simpa using h a ha]
theorem ns_head {ns : List Bs} {m : Bs} (h : ns.Pairwise (· < ·)) (hm : m ∈ ns) (hl : ∀ x ∈ ns, x = m ∨ m < x) : ∃ r, ns = m :: r ∧ r.Pairwise (· < ·) ∧ ∀ x, x ∈ r ↔ x ∈ ns ∧ x ≠ m := by
  cases ns with
  | nil => cases hm
  | cons y r =>
    obtain ⟨h1, h2⟩ := List.pairwise_cons.1 h
    have e : y = m := by
      rcases List.mem_cons.1 hm with e | hr
      · exact e.symm
      · rcases hl y List.mem_cons_self with e | hlt
        · exact e
        · exact absurd (List.lt_trans hlt (h1 m hr)) (List.lt_irrefl _)
    subst e
    refine ⟨r, rfl, h2, fun x => ?_⟩
    rw [List.mem_cons]
    constructor
    · intro hx
      exact ⟨.inr hx, fun e => by subst e; exact List.lt_irrefl _ (h1 _ hx)⟩
    · rintro ⟨hx, hne⟩
      exact hx.resolve_left hne
theorem flat_congr {α : Type} {f g : Bs → List α} {l : List Bs} (h : ∀ x ∈ l, f x = g x) : l.flatMap f = l.flatMap g := by
  induction l with
  | nil => rfl
  | cons a l ih => rw [List.flatMap_cons, List.flatMap_cons, h a List.mem_cons_self, ih fun x hx => h x (List.mem_cons_of_mem _ hx)]
theorem name_lt_of {a b : Bs} (h1 : ¬ a < b) (h2 : ¬ b < a) : a = b := List.le_antisymm (List.not_lt.1 h2) (List.not_lt.1 h1)
theorem rDiff_law (x y : List Idn.Att) : ∀ ns : List Bs, (x.map (·.name)).Pairwise (· < ·) → (y.map (·.name)).Pairwise (· < ·) → (∀ a ∈ x, a.vals.length ≠ 0) → (∀ a ∈ y, a.vals.length ≠ 0) → ns.Pairwise (· < ·) → (∀ m, m ∈ ns ↔ m ∈ x.map (·.name) ∨ m ∈ y.map (·.name)) →
    rDiffK x y = ns.flatMap fun n => difs n (lookA x n) (lookA y n) := by
  induction x, y using rDiffK.induct with
  | case1 =>
    intro ns _ _ _ _ _ h
    have : ns = [] := List.eq_nil_iff_forall_not_mem.2 fun m hm => by have := (h m).1 hm; simp at this
    subst this; simp [rDiffK]
  | case2 a x ih =>
    intro ns h1 h2 h3 h4 h5 h6
    rw [List.map_cons, List.pairwise_cons] at h1
    obtain ⟨r, rfl, r1, r2⟩ := ns_head h5 ((h6 a.name).2 (.inl (by simp))) fun m hm => by
      have := (h6 m).1 hm
      simp only [List.map_cons, List.mem_cons, List.map_nil, List.not_mem_nil, or_false] at this
      rcases this with e | hm
      · exact .inl e
      · exact .inr (h1.1 m hm)
    rw [rDiffK, List.flatMap_cons, lookA_head, lookA_none (x := []) (by simp), difs_left (h3 a List.mem_cons_self), ih r h1.2 h2 (fun b hb => h3 b (List.mem_cons_of_mem _ hb)) h4 r1 (fun m => by
      rw [r2, h6]
      simp only [List.map_cons, List.mem_cons, List.map_nil, List.not_mem_nil, or_false]
      constructor
      · rintro ⟨h, hne⟩; exact h.resolve_left hne
      · intro h; exact ⟨.inr h, fun e => by subst e; exact List.lt_irrefl _ (h1.1 _ h)⟩)]
    rw [List.singleton_append]
    congr 1
    refine flat_congr fun m hm => ?_
    rw [lookA_tail x fun e => ((r2 m).1 hm).2 e.symm]
  | case3 b y ih =>
    intro ns h1 h2 h3 h4 h5 h6
    rw [List.map_cons, List.pairwise_cons] at h2
    obtain ⟨r, rfl, r1, r2⟩ := ns_head h5 ((h6 b.name).2 (.inr (by simp))) fun m hm => by
      have := (h6 m).1 hm
      simp only [List.map_cons, List.mem_cons, List.map_nil, List.not_mem_nil, false_or] at this
      rcases this with e | hm
      · exact .inl e
      · exact .inr (h2.1 m hm)
    rw [rDiffK, List.flatMap_cons, lookA_head, lookA_none (x := []) (by simp), difs_right (h4 b List.mem_cons_self), ih r h1 h2.2 h3 (fun c hc => h4 c (List.mem_cons_of_mem _ hc)) r1 (fun m => by
      rw [r2, h6]
      simp only [List.map_cons, List.mem_cons, List.map_nil, List.not_mem_nil, false_or]
      constructor
      · rintro ⟨h, hne⟩; exact h.resolve_left hne
      · intro h; exact ⟨.inr h, fun e => by subst e; exact List.lt_irrefl _ (h2.1 _ h)⟩)]
    rw [List.singleton_append]
    congr 1
    refine flat_congr fun m hm => ?_
    rw [lookA_tail y fun e => ((r2 m).1 hm).2 e.symm]
  | case4 a x b y hab ih =>
    intro ns h1 h2 h3 h4 h5 h6
    have h1' := h1
    have h2' := h2
    rw [List.map_cons, List.pairwise_cons] at h1 h2
    have hlt : ∀ m ∈ (b :: y).map (·.name), a.name < m := fun m hm => by
      rw [List.map_cons, List.mem_cons] at hm
      rcases hm with rfl | hm
      · exact hab
      · exact List.lt_trans hab (h2.1 m hm)
    obtain ⟨r, rfl, r1, r2⟩ := ns_head h5 ((h6 a.name).2 (.inl (by simp))) fun m hm => by
      rcases (h6 m).1 hm with hm | hm
      · rw [List.map_cons, List.mem_cons] at hm
        rcases hm with e | hm
        · exact .inl e
        · exact .inr (h1.1 m hm)
      · exact .inr (hlt m hm)
    rw [rDiffK, if_pos hab, List.flatMap_cons, lookA_head, lookA_none (x := b :: y) (fun c hc e => List.lt_irrefl _ (e ▸ hlt c.name (List.mem_map_of_mem hc))), difs_left (h3 a List.mem_cons_self), ih r h1.2 h2' (fun c hc => h3 c (List.mem_cons_of_mem _ hc)) h4 r1 (fun m => by
      rw [r2, h6]
      rw [List.map_cons, List.mem_cons]
      constructor
      · rintro ⟨(h | h) | h, hne⟩
        · exact absurd h hne
        · exact .inl h
        · exact .inr h
      · rintro (h | h)
        · exact ⟨.inl (.inr h), fun e => by subst e; exact List.lt_irrefl _ (h1.1 _ h)⟩
        · exact ⟨.inr h, fun e => by subst e; exact List.lt_irrefl _ (hlt _ h)⟩)]
    rw [List.singleton_append]
    congr 1
    refine flat_congr fun m hm => ?_
    rw [lookA_tail x fun e => ((r2 m).1 hm).2 e.symm]
  | case5 a x b y hab hba ih =>
    intro ns h1 h2 h3 h4 h5 h6
    have h1' := h1
    have h2' := h2
    rw [List.map_cons, List.pairwise_cons] at h1 h2
    have hlt : ∀ m ∈ (a :: x).map (·.name), b.name < m := fun m hm => by
      rw [List.map_cons, List.mem_cons] at hm
      rcases hm with rfl | hm
      · exact hba
      · exact List.lt_trans hba (h1.1 m hm)
    obtain ⟨r, rfl, r1, r2⟩ := ns_head h5 ((h6 b.name).2 (.inr (by simp))) fun m hm => by
      rcases (h6 m).1 hm with hm | hm
      · exact .inr (hlt m hm)
      · rw [List.map_cons, List.mem_cons] at hm
        rcases hm with e | hm
        · exact .inl e
        · exact .inr (h2.1 m hm)
    rw [rDiffK, if_neg hab, if_pos hba, List.flatMap_cons, lookA_head b y, lookA_none (x := a :: x) (fun c hc e => List.lt_irrefl _ (e ▸ hlt c.name (List.mem_map_of_mem hc))), difs_right (h4 b List.mem_cons_self), ih r h1' h2.2 h3 (fun c hc => h4 c (List.mem_cons_of_mem _ hc)) r1 (fun m => by
      rw [r2, h6]
      rw [List.map_cons (l := y), List.mem_cons (l := y.map _)]
      constructor
      · rintro ⟨h | (h | h), hne⟩
        · exact .inl h
        · exact absurd h hne
        · exact .inr h
      · rintro (h | h)
        · exact ⟨.inl h, fun e => by subst e; exact List.lt_irrefl _ (hlt _ h)⟩
        · exact ⟨.inr (.inr h), fun e => by subst e; exact List.lt_irrefl _ (h2.1 _ h)⟩)]
    rw [List.singleton_append]
    congr 1
    refine flat_congr fun m hm => ?_
    rw [lookA_tail y fun e => ((r2 m).1 hm).2 e.symm]
  | case6 a x b y hab hba ih =>
    intro ns h1 h2 h3 h4 h5 h6
    have e := name_lt_of hab hba
    rw [List.map_cons, List.pairwise_cons] at h1 h2
    obtain ⟨r, rfl, r1, r2⟩ := ns_head h5 ((h6 a.name).2 (.inl (by simp))) fun m hm => by
      rcases (h6 m).1 hm with hm | hm
      · rw [List.map_cons, List.mem_cons] at hm
        rcases hm with e | hm
        · exact .inl e
        · exact .inr (h1.1 m hm)
      · rw [List.map_cons, List.mem_cons] at hm
        rcases hm with e2 | hm
        · exact .inl (e2.trans e.symm)
        · exact .inr (e ▸ h2.1 m hm)
    have hb : lookA (b :: y) a.name = b.vals := by rw [e]; exact lookA_head b y
    rw [rDiffK, if_neg hab, if_neg hba, List.flatMap_cons, lookA_head, hb, difs_both e (h3 a List.mem_cons_self) (h4 b List.mem_cons_self), ih r h1.2 h2.2 (fun c hc => h3 c (List.mem_cons_of_mem _ hc)) (fun c hc => h4 c (List.mem_cons_of_mem _ hc)) r1 (fun m => by
      rw [r2, h6]
      rw [List.map_cons, List.map_cons, List.mem_cons, List.mem_cons]
      constructor
      · rintro ⟨(h | h) | (h | h), hne⟩
        · exact absurd h hne
        · exact .inl h
        · exact absurd (h.trans e.symm) hne
        · exact .inr h
      · rintro (h | h)
        · exact ⟨.inl (.inr h), fun e => by subst e; exact List.lt_irrefl _ (h1.1 _ h)⟩
        · exact ⟨.inr (.inr h), fun e2 => by subst e2; exact List.lt_irrefl _ (e ▸ h2.1 _ h)⟩)]
    congr 1
    refine flat_congr fun m hm => ?_
    rw [lookA_tail x fun e2 => ((r2 m).1 hm).2 e2.symm, lookA_tail y fun e2 => ((r2 m).1 hm).2 (e2.symm.trans e.symm)]
end Go.Proofs.YtoopoglkeeoamaaGreatDoor
/- Plain laws: the differences of two entries by the reference are the layer's. -/
namespace Go.Proofs.YtoopoglkeeoamaaGreatDoor
open Go.RowKit Go.Sort
open Idn (L B Bs)
def rEDiff (n : Bs) (l : List Idn.Att) (m : Bs) (k : List Idn.Att) : List Md :=
  if eCheck n l != 0 || eCheck m k != 0 then [] else rDiffK (Idn.rSorted l) (Idn.rSorted k)
theorem eCheck_zero {n : Bs} {l : List Idn.Att} (h : eCheck n l = 0) : Idn.aCheck l = 0 := by
  unfold eCheck at h
  split at h
  · cases h
  · exact h
theorem rSorted_pw (l : List Idn.Att) : ((Idn.rSorted l).map (·.name)).Pairwise (· < ·) := by
  have : (Idn.rSorted l).map (·.name) = Idn.insAll (Idn.lows l) := by
    unfold Idn.rSorted
    rw [List.map_map]
    exact List.map_id' _
  rw [this]
  exact Idn.insAll_lt _
theorem insAll_ne {v : List Bs} (h : v ≠ []) : (Idn.insAll v).length ≠ 0 := by
  intro e
  have e2 := List.eq_nil_of_length_eq_zero e
  cases v with
  | nil => exact h rfl
  | cons x v =>
    have := (Idn.insAll_mem (x :: v) x).2 List.mem_cons_self
    rw [e2] at this; cases this
theorem rSorted_full (l : List Idn.Att) : ∀ a ∈ Idn.rSorted l, a.vals.length ≠ 0 := by
  intro a ha
  unfold Idn.rSorted at ha
  obtain ⟨m, hm, rfl⟩ := List.mem_map.1 ha
  rw [Idn.insAll_mem, Idn.mem_lows] at hm
  exact insAll_ne hm
theorem look_get (l : List Idn.Att) {x : Bs} (h : Idn.lower x = x) : rGet l x = lookA (Idn.rSorted l) x := by
  unfold rGet lookA
  rw [h]
  generalize Idn.rSorted l = q
  induction q with
  | nil => rfl
  | cons a q ih =>
    by_cases e : a.name = x
    · rw [List.findIdx?_cons, List.find?_cons_of_pos (by simpa using e)]
      simp [e]
    · rw [List.findIdx?_cons, List.find?_cons_of_neg (by simpa using e), ← ih]
      simp only [e, decide_false, Bool.false_eq_true, if_false]
      cases q.findIdx? (fun a => decide (a.name = x)) with
      | none => rfl
      | some k => simp
theorem rEDiff_eq (n : Bs) (l : List Idn.Att) (m : Bs) (k : List Idn.Att) : rEDiff n l m k = eDiff n l m k := by
  unfold rEDiff eDiff
  split
  · rfl
  · rename_i h
    rw [Bool.or_eq_true, not_or] at h
    have h1 := eCheck_zero (n := n) (l := l) (by simpa using h.1)
    have h2 := eCheck_zero (n := m) (l := k) (by simpa using h.2)
    have f1 := fun a ha => ((aCheck_zero h1).2 a ha).1
    have f2 := fun a ha => ((aCheck_zero h2).2 a ha).1
    have e1 := rNames_l f1
    have e2 := rNames_l f2
    rw [rDiff_law (Idn.rSorted l) (Idn.rSorted k) (Lib.compact (Idn.srt (namesL l ++ namesL k))) (rSorted_pw l) (rSorted_pw k) (rSorted_full l) (rSorted_full k)
      (by rw [show Lib.compact (Idn.srt (namesL l ++ namesL k)) = Idn.insAll (namesL l ++ namesL k) from Idn.law _]; exact Idn.insAll_lt _)
      (fun x => by rw [show Lib.compact (Idn.srt (namesL l ++ namesL k)) = Idn.insAll (namesL l ++ namesL k) from Idn.law _, Idn.insAll_mem, List.mem_append, e1, e2])]
    refine flat_congr fun x hx => ?_
    rw [show Lib.compact (Idn.srt (namesL l ++ namesL k)) = Idn.insAll (namesL l ++ namesL k) from Idn.law _, Idn.insAll_mem, List.mem_append, ← e1, ← e2] at hx
    have hlow : Idn.lower x = x := by
      rcases hx with hx | hx
      · obtain ⟨a, ha, rfl⟩ := List.mem_map.1 hx; exact Idn.rSorted_name ha
      · obtain ⟨a, ha, rfl⟩ := List.mem_map.1 hx; exact Idn.rSorted_name ha
    rw [← look_get l hlow, ← look_get k hlow, rGet_eq f1, rGet_eq f2]
end Go.Proofs.YtoopoglkeeoamaaGreatDoor
/- Plain law of EntryStable. -/
namespace Go.Proofs.YtoopoglkeeoamaaGreatDoor
open Go.RowKit Go.Sort
open Idn (L B Bs)
theorem sNorm_idem {s : Idn.Sch} {n v a : Bs} (h : sNorm s n v = (a, 0)) : sNorm s n a = (a, 0) := by
  obtain ⟨h1, h2, _⟩ := sNorm_ok h
  exact sNorm_of h1 (normV_idem h2)
def Nor (s : Idn.Sch) (n : Bs) (l : List Bs) : Prop := ∀ x ∈ l, sNorm s n x = (x, 0)
def QN (s : Idn.Sch) (l : List Idn.Att) : Prop := Idn.rSorted l = l ∧ ∀ a ∈ l, Nor s a.name a.vals
theorem Nor.low {s : Idn.Sch} {n : Bs} {l : List Bs} (h : Nor s n l) : Nor s (Idn.lower n) l := fun x hx => by rw [sNorm_low]; exact h x hx
theorem Nor.same {s : Idn.Sch} {n m : Bs} {l : List Bs} (h : Nor s n l) (e : Idn.lower n = Idn.lower m) : Nor s m l := fun x hx => by rw [← sNorm_low, ← e, sNorm_low]; exact h x hx
theorem eValsK_nor (s : Idn.Sch) (n : Bs) : ∀ (l acc : List Bs), Nor s n acc → Nor s n (eValsK s n acc l).1
  | [], _, h => h
  | v :: l, acc, h => by
    rw [eValsK]
    split
    · intro x hx; cases hx
    · rename_i h0
      refine eValsK_nor s n l _ fun x hx => ?_
      rcases List.mem_append.1 hx with hx | hx
      · exact h x hx
      · rw [List.mem_singleton] at hx
        subst hx
        exact sNorm_idem (Prod.ext rfl (by simpa using h0) : sNorm s n v = ((sNorm s n v).1, 0))
theorem eAtt_nor (s : Idn.Sch) (n : Bs) (l : List Bs) : Nor s n (eAtt s n l).1 := by
  unfold eAtt
  split
  · intro x hx; cases hx
  · split
    · intro x hx; cases hx
    · exact eValsK_nor s n l [] (fun x hx => by cases hx)
theorem eAttsK_nor (s : Idn.Sch) : ∀ (l acc : List Idn.Att), (∀ a ∈ acc, Nor s a.name a.vals) → ∀ a ∈ (eAttsK s acc l).1, Nor s a.name a.vals
  | [], _, h => h
  | b :: l, acc, h => by
    rw [eAttsK]
    split
    · simp
    · refine eAttsK_nor s l _ fun a ha => ?_
      rcases List.mem_append.1 ha with ha | ha
      · exact h a ha
      · rw [List.mem_singleton] at ha
        subst ha
        exact eAtt_nor s b.name b.vals
theorem mem_valsOf {l : List Idn.Att} {n x : Bs} : x ∈ Idn.valsOf l n ↔ ∃ a ∈ l, Idn.lower a.name = n ∧ x ∈ a.vals := by
  unfold Idn.valsOf
  rw [List.mem_flatMap]
  constructor
  · rintro ⟨a, ha, hx⟩
    rw [List.mem_filter, decide_eq_true_eq] at ha
    exact ⟨a, ha.1, ha.2, hx⟩
  · rintro ⟨a, h1, h2, hx⟩
    exact ⟨a, List.mem_filter.2 ⟨h1, by rw [decide_eq_true_eq]; exact h2⟩, hx⟩
theorem valsOf_nor {s : Idn.Sch} {l : List Idn.Att} (h : ∀ a ∈ l, Nor s a.name a.vals) (n : Bs) : Nor s n (Idn.valsOf l (Idn.lower n)) := fun x hx => by
  obtain ⟨a, ha, e, hx⟩ := mem_valsOf.1 hx
  exact Nor.same (h a ha) e x hx
theorem rSorted_nor {s : Idn.Sch} {l : List Idn.Att} (h : ∀ a ∈ l, Nor s a.name a.vals) : ∀ a ∈ Idn.rSorted l, Nor s a.name a.vals := by
  intro a ha x hx
  have hl := Idn.rSorted_name ha
  unfold Idn.rSorted at ha
  obtain ⟨m, hm, rfl⟩ := List.mem_map.1 ha
  have hx : x ∈ Idn.insAll (Idn.valsOf l m) := hx
  rw [Idn.insAll_mem] at hx
  have hl : Idn.lower m = m := hl
  rw [← hl] at hx
  exact valsOf_nor h m x hx
theorem rSorted_idem (l : List Idn.Att) : Idn.rSorted (Idn.rSorted l) = Idn.rSorted l := by
  have e1 : Idn.insAll (Idn.lows (Idn.rSorted l)) = Idn.insAll (Idn.lows l) := by
    refine Idn.uniq _ _ (Idn.insAll_lt _) (Idn.insAll_lt _) fun x => ?_
    rw [Idn.insAll_mem]
    have : Idn.lows (Idn.rSorted l) = Idn.insAll (Idn.lows l) := by
      rw [Idn.lows_all (rSorted_full l)]
      have h2 : ∀ a ∈ Idn.rSorted l, Idn.lower a.name = a.name := fun a ha => Idn.rSorted_name ha
      rw [List.map_congr_left h2]
      unfold Idn.rSorted
      rw [List.map_map]
      exact List.map_id' _
    rw [this]
  have e2 : ∀ n ∈ Idn.insAll (Idn.lows l), Idn.rOne (Idn.rSorted l) n = Idn.rOne l n := fun n hn => by
    have hn : Idn.lower n = n := by
      rw [Idn.insAll_mem] at hn
      unfold Idn.lows at hn
      obtain ⟨b, _, rfl⟩ := List.mem_map.1 hn
      exact Idn.lower_lower _
    have h := valsOf_sorted l n
    rw [hn] at h
    unfold Idn.rOne
    rw [h, insAll_idem]
  rw [show Idn.rSorted (Idn.rSorted l) = (Idn.insAll (Idn.lows (Idn.rSorted l))).map (Idn.rOne (Idn.rSorted l)) from rfl, e1, List.map_congr_left e2]
  rfl
theorem QN.sorted {s : Idn.Sch} {l : List Idn.Att} (h : ∀ a ∈ l, Nor s a.name a.vals) : QN s (Idn.rSorted l) := ⟨rSorted_idem l, rSorted_nor h⟩
theorem QN.full {s : Idn.Sch} {l : List Idn.Att} (h : QN s l) : ∀ a ∈ l, a.vals.length ≠ 0 := fun a ha => rSorted_full l a (h.1.symm ▸ ha)
theorem QN.name {s : Idn.Sch} {l : List Idn.Att} (h : QN s l) : ∀ a ∈ l, Idn.lower a.name = a.name := fun a ha => Idn.rSorted_name (l := l) (h.1.symm ▸ ha)
theorem sValid_check {s : Idn.Sch} {l : List Idn.Att} (h : sValid s l = 0) : Idn.aCheck l = 0 := by
  unfold sValid at h
  split at h
  · rename_i hn; simp [h] at hn
  · rename_i hn; simpa using hn
/-- what eNormal gives without an error -/
theorem nf_parts {s : Idn.Sch} {n : Bs} {l : List Idn.Att} {x : En} (h : eNormal s n l = (x, 0)) : Idn.cleanN x.1 = (x.1, 0) ∧ x.1 ≠ [] ∧ QN s x.2 ∧ sValid s x.2 = 0 := by
  unfold eNormal at h
  split at h
  · simp at h
  · rename_i h1
    rw [Bool.or_eq_true, not_or] at h1
    split at h
    · rename_i h2; simp only [Prod.mk.injEq] at h; simp [h.2] at h2
    · rename_i h2
      have h0 : Idn.aCheck l = 0 := by simpa using h2
      have h4 := fun a ha => ((aCheck_zero h0).2 a ha).1
      split at h
      · rename_i h3; simp only [Prod.mk.injEq] at h; simp [h.2] at h3
      · unfold eOut at h
        split at h
        · rename_i h3; simp only [Prod.mk.injEq] at h; simp [h.2] at h3
        · rename_i h3
          simp only [Prod.mk.injEq, and_true] at h
          subst h
          dsimp only
          have hc : Idn.cleanN n = ((Idn.cleanN n).1, 0) := Prod.ext rfl (by simpa using h1.1)
          obtain ⟨_, _, _, _, hcl, _⟩ := Idn.clean_form hc
          refine ⟨hcl, by simpa using h1.2, ?_, by simpa using h3⟩
          rw [← Idn.rSorted_eq (eAttsK_full s (byLow l) [] (by simp) (byLow_full h4))]
          exact QN.sorted (eAttsK_nor s (byLow l) [] (by simp))
theorem QN.set {s : Idn.Sch} {l : List Idn.Att} (h : QN s l) {n : Bs} {v : List Bs} (hv : Nor s n v) : QN s (aSet (Idn.rSorted l) n v) := by
  unfold aSet
  refine QN.sorted fun a ha => ?_
  rcases List.mem_append.1 ha with ha | ha
  · have := (List.mem_filter.1 ha).1
    rw [h.1] at this
    exact h.2 a this
  · rw [List.mem_singleton] at ha
    subst ha
    exact hv.low
theorem rmK_sub : ∀ (v old o : List Bs), rmK old v = some o → ∀ x ∈ o, x ∈ old
  | [], old, o, h, x, hx => by rw [rmK] at h; injection h with h; subst h; exact hx
  | y :: v, old, o, h, x, hx => by
    rw [rmK] at h
    split at h
    · exact List.mem_of_mem_erase (rmK_sub v _ o h x hx)
    · cases h
theorem sameV_eq {a b : List Idn.Att} (h : sameV a b = true) : a = b := by
  unfold sameV at h
  rw [decide_eq_true_eq] at h
  have hi : ∀ x y : Idn.Att, (x.name, x.vals) = (y.name, y.vals) → x = y := fun x y e => by
    cases x; cases y; simp only [Prod.mk.injEq] at e; rw [e.1, e.2]
  exact List.map_inj_right hi |>.1 h
theorem sameV_refl (a : List Idn.Att) : sameV a a = true := by unfold sameV; simp
end Go.Proofs.YtoopoglkeeoamaaGreatDoor
/- Plain law of EntryTurns. -/
namespace Go.Proofs.YtoopoglkeeoamaaGreatDoor
open Go.RowKit Go.Sort
open Idn (L B Bs)
theorem valsOf_filter (S : List Idn.Att) (n m : Bs) (hS : ∀ a ∈ S, Idn.lower a.name = a.name) (h : Idn.lower m ≠ Idn.lower n) : Idn.valsOf (S.filter fun a => !decide (a.name = Idn.lower n)) (Idn.lower m) = Idn.valsOf S (Idn.lower m) := by
  unfold Idn.valsOf
  rw [List.filter_filter]
  congr 1
  refine List.filter_congr fun a ha => ?_
  by_cases e : Idn.lower a.name = Idn.lower m
  · rw [decide_eq_true e, Bool.true_and]
    have : a.name ≠ Idn.lower n := fun e2 => h (by rw [← e, hS a ha, e2])
    simpa using this
  · rw [decide_eq_false e, Bool.false_and]
/-- one attribute has been set: the values of all -/
theorem set_get (S : List Idn.Att) (n : Bs) (v : List Bs) (m : Bs) : rGet (aSet (Idn.rSorted S) n v) m = if Idn.lower m = Idn.lower n then Idn.insAll v else rGet S m := by
  by_cases e : Idn.lower m = Idn.lower n
  · rw [if_pos e]
    have h := aSet_get S n v
    rw [rGet_law] at h ⊢
    rw [e]; exact h
  · rw [if_neg e]
    unfold aSet
    rw [rGet_sorted, rGet_law, Idn.valsOf_app, valsOf_filter _ _ _ (fun a ha => Idn.rSorted_name ha) e, valsOf_sorted]
    have : Idn.valsOf [⟨Idn.lower n, v⟩] (Idn.lower m) = [] := by
      unfold Idn.valsOf
      have : Idn.lower n ≠ Idn.lower m := fun e2 => e e2.symm
      simp [Idn.lower_lower, this]
    rw [this, List.append_nil, insAll_idem, rGet_law]
theorem rSorted_ext {S T : List Idn.Att} (h : ∀ m, rGet S m = rGet T m) : Idn.rSorted S = Idn.rSorted T := by
  have hv : ∀ m, Idn.lower m = m → Idn.insAll (Idn.valsOf S m) = Idn.insAll (Idn.valsOf T m) := fun m hm => by
    have := h m
    rw [rGet_law, rGet_law, hm] at this
    exact this
  have low : ∀ (l : List Idn.Att) m, m ∈ Idn.lows l → Idn.lower m = m := fun l m hm => by
    unfold Idn.lows at hm
    obtain ⟨a, _, rfl⟩ := List.mem_map.1 hm
    exact Idn.lower_lower _
  have ne : ∀ v : List Bs, v ≠ [] ↔ Idn.insAll v ≠ [] := fun v => by
    constructor
    · intro h e; exact insAll_ne h (by rw [e]; rfl)
    · intro h e; exact h (by rw [e]; rfl)
  have hmem : ∀ m, m ∈ Idn.lows S ↔ m ∈ Idn.lows T := fun m => by
    constructor
    · intro hm
      have hl := low S m hm
      rw [Idn.mem_lows, ne, ← hv m hl, ← ne, ← Idn.mem_lows]; exact hm
    · intro hm
      have hl := low T m hm
      rw [Idn.mem_lows, ne, hv m hl, ← ne, ← Idn.mem_lows]; exact hm
  have e1 : Idn.insAll (Idn.lows S) = Idn.insAll (Idn.lows T) := Idn.uniq _ _ (Idn.insAll_lt _) (Idn.insAll_lt _) fun x => by rw [Idn.insAll_mem, Idn.insAll_mem]; exact hmem x
  unfold Idn.rSorted
  rw [e1]
  refine List.map_congr_left fun m hm => ?_
  rw [Idn.insAll_mem] at hm
  unfold Idn.rOne
  rw [hv m (low T m hm)]
theorem QN.ext {s : Idn.Sch} {S T : List Idn.Att} (h1 : QN s S) (h2 : QN s T) (h : ∀ m, rGet S m = rGet T m) : S = T := by
  rw [← h1.1, ← h2.1]; exact rSorted_ext h
/-- a state with the values of one name turned -/
structure Turned (s : Idn.Sch) (S : List Idn.Att) (n : Bs) (v : List Bs) (S' : List Idn.Att) : Prop where
  q : QN s S'
  g : ∀ m, Idn.lower m = m → rGet S' m = if m = n then v else rGet S m
theorem Turned.trans {s : Idn.Sch} {S S' S'' : List Idn.Att} {n : Bs} {v v' : List Bs} (h : Turned s S n v S') (h' : Turned s S' n v' S'') : Turned s S n v' S'' :=
  ⟨h'.q, fun m hm => by
    rw [h'.g m hm]
    split
    · rfl
    · rename_i e; rw [h.g m hm, if_neg e]⟩
section
variable {s : Idn.Sch} {S : List Idn.Att} {n : Bs} {old new : List Bs}
end
end Go.Proofs.YtoopoglkeeoamaaGreatDoor
/- The values of the small case of identitylaw08, reckoned. -/
namespace Go.Proofs.YtoopoglkeeoamaaGreatDoor
open Go.RowKit Go.Sort
open Idn (L B Bs)
namespace E8
def personN : Bs := [112, 101, 114, 115, 111, 110]
def cnN : Bs := [99, 110]
def snN : Bs := [115, 110]
def numN : Bs := [110, 117, 109]
def smallS : Idn.Sch := ⟨[⟨Idn.mainN, 1, false⟩, ⟨cnN, 1, false⟩, ⟨snN, 1, false⟩, ⟨numN, 3, false⟩], [⟨personN, [], [Idn.mainN, cnN], [snN, numN]⟩]⟩
def annN : Bs := [99, 110, 61, 97, 110, 110]
def CNN : Bs := [67, 78, 61, 65, 110, 110]
def ClassN : Bs := [67, 108, 97, 115, 115]
def rawL : List Idn.Att := [⟨ClassN, [personN]⟩, ⟨cnN, [[65, 110, 110]]⟩, ⟨numN, [[55]]⟩]
def midL : List Idn.Att := [⟨ClassN, [personN]⟩, ⟨cnN, [[97, 110, 110]]⟩, ⟨numN, [[55]]⟩]
def norL : List Idn.Att := [⟨Idn.mainN, [personN]⟩, ⟨cnN, [[97, 110, 110]]⟩, ⟨numN, [[55]]⟩]
def bobL : List Idn.Att := [⟨Idn.mainN, [personN]⟩, ⟨cnN, [[98, 111, 98]]⟩, ⟨numN, [[55]]⟩]
def snL : List Idn.Att := [⟨snN, [[97, 32, 98]]⟩]
def oneL : List Idn.Att := [⟨numN, [[49], [50]]⟩]
def twoL : List Idn.Att := [⟨numN, [[50], [51]]⟩]
def textB : Bs := [101, 110, 116, 114, 121, 32, 99, 110, 37, 51, 68, 97, 110, 110, 10, 115, 110, 32, 97, 37, 50, 48, 98, 10]
theorem ev_check : Idn.sCheck smallS = 0 := by kernel_rfl
theorem ev_sound : sound smallS = smallS := by rw [sound, if_pos ev_check]
theorem small_ssm : SSm smallS := by unfold SSm TSm CSm Sm smallS; decide
theorem ev_c1 : eCheck annN [] = 0 := by kernel_rfl
theorem ev_c2 : eCheck [] [] = 5 := by kernel_rfl
theorem ev_c3 : eCheck annN snL = 0 := by kernel_rfl
theorem ev_c4 : eCheck annN oneL = 0 := by kernel_rfl
theorem ev_c5 : eCheck annN twoL = 0 := by kernel_rfl
theorem sn_srt : Idn.aSorted snL = snL := by
  have h : (Idn.grp [] snL).map Idn.normA = snL := by kernel_rfl
  unfold Idn.aSorted
  rw [h]; simp [List.mergeSort, snL]
theorem ev_text : eText annN snL = (textB, 0) := by
  unfold eText
  rw [ev_c3, if_neg (by decide), sn_srt]
  kernel_rfl
theorem srt12 (a b : Bs) (h : decide (a ≤ b) = true) : Idn.srt [a, b] = [a, b] := by
  unfold Idn.srt
  simp [List.mergeSort, List.MergeSort.Internal.splitInTwo, List.merge, h, -decide_eq_true_eq]
theorem one_srt : Idn.aSorted oneL = oneL := by
  have h : (Idn.grp [] oneL).map Idn.normA = [⟨numN, Lib.compact (Idn.srt [[49], [50]])⟩] := by kernel_rfl
  unfold Idn.aSorted
  rw [h, srt12 _ _ (by decide)]
  have h2 : Lib.compact ([[49], [50]] : List Bs) = [[49], [50]] := by kernel_rfl
  rw [h2]; simp [List.mergeSort, oneL]
theorem two_srt : Idn.aSorted twoL = twoL := by
  have h : (Idn.grp [] twoL).map Idn.normA = [⟨numN, Lib.compact (Idn.srt [[50], [51]])⟩] := by kernel_rfl
  unfold Idn.aSorted
  rw [h, srt12 _ _ (by decide)]
  have h2 : Lib.compact ([[50], [51]] : List Bs) = [[50], [51]] := by kernel_rfl
  rw [h2]; simp [List.mergeSort, twoL]
theorem ev_diff : eDiff annN oneL annN twoL = [⟨2, numN, [[49]]⟩, ⟨1, numN, [[51]]⟩] := by
  unfold eDiff
  rw [ev_c4, ev_c5, if_neg (by decide)]
  have n1 : namesL oneL = [numN] := by unfold namesL; rw [one_srt]; rfl
  have n2 : namesL twoL = [numN] := by unfold namesL; rw [two_srt]; rfl
  have g1 : getL oneL numN = [[49], [50]] := by unfold getL; rw [one_srt]; kernel_rfl
  have g2 : getL twoL numN = [[50], [51]] := by unfold getL; rw [two_srt]; kernel_rfl
  rw [n1, n2]
  show (Lib.compact (Idn.srt [numN, numN])).flatMap _ = _
  rw [srt12 _ _ (by decide)]
  have h2 : Lib.compact [numN, numN] = [numN] := by kernel_rfl
  rw [h2]
  show difs numN (getL oneL numN) (getL twoL numN) ++ [] = _
  rw [g1, g2]
  kernel_rfl
theorem mrg3 {a b c : Idn.Att} {le : Idn.Att → Idn.Att → Bool} (h1 : le a b = true) (h2 : le b c = true) (h3 : le a c = true) : [a, b, c].mergeSort le = [a, b, c] := by
  simp [List.mergeSort, List.MergeSort.Internal.splitInTwo, List.merge, h1, h2, h3]
theorem raw_low : byLow rawL = rawL := by unfold byLow rawL; exact mrg3 (by decide) (by decide) (by decide)
theorem nor_low : byLow norL = norL := by unfold byLow norL; exact mrg3 (by decide) (by decide) (by decide)
theorem mid_srt : Idn.aSorted midL = norL := by
  have h : (Idn.grp [] midL).map Idn.normA = norL := by kernel_rfl
  unfold Idn.aSorted
  rw [h]; unfold norL; exact mrg3 (by decide) (by decide) (by decide)
theorem nor_srt : Idn.aSorted norL = norL := by
  have h : (Idn.grp [] norL).map Idn.normA = norL := by kernel_rfl
  unfold Idn.aSorted
  rw [h]; unfold norL; exact mrg3 (by decide) (by decide) (by decide)
theorem bob_srt : Idn.aSorted bobL = bobL := by
  have h : (Idn.grp [] bobL).map Idn.normA = bobL := by kernel_rfl
  unfold Idn.aSorted
  rw [h]; unfold bobL; exact mrg3 (by decide) (by decide) (by decide)
theorem cmpM : Lib.compact [Idn.mainN, cnN] = [Idn.mainN, cnN] := by kernel_rfl
theorem cmp4 : Lib.compact [Idn.mainN, cnN, numN, snN] = [Idn.mainN, cnN, numN, snN] := by kernel_rfl
theorem ev_must : mustL smallS personN = [Idn.mainN, cnN] := by
  have h : (((Idn.lin smallS personN).filterMap (smallS.classes[·]?)).flatMap (·.must)).map Idn.lower = [Idn.mainN, cnN] := by kernel_rfl
  unfold mustL merged
  rw [h]
  have e : sorted [Idn.mainN, cnN] = [Idn.mainN, cnN] := srt12 _ _ (by decide)
  rw [e, cmpM]
theorem srt4 : sorted [Idn.mainN, cnN, snN, numN] = [Idn.mainN, cnN, numN, snN] := by
  unfold sorted
  have e1 : decide (Idn.mainN ≤ cnN) = true := by decide
  have e2 : decide (snN ≤ numN) = false := by decide
  have e3 : decide (Idn.mainN ≤ numN) = true := by decide
  have e4 : decide (cnN ≤ numN) = true := by decide
  simp [List.mergeSort, List.MergeSort.Internal.splitInTwo, List.merge, e1, e2, e3, e4, -decide_eq_true_eq, -decide_eq_false_iff_not]
theorem ev_may : mayL smallS personN = [Idn.mainN, cnN, numN, snN] := by
  have h : (mustL smallS personN ++ ((Idn.lin smallS personN).filterMap (smallS.classes[·]?)).flatMap (·.may)).map Idn.lower = [Idn.mainN, cnN, snN, numN] := by
    rw [ev_must]; kernel_rfl
  unfold mayL merged
  rw [h, srt4, cmp4]
theorem ev_cl : classedB smallS [Idn.mainN, cnN, numN] [personN] = true := by
  have h0 : Idn.fold personN = personN := by kernel_rfl
  have h1 : clKey smallS personN = true := by kernel_rfl
  unfold classedB clsGo clsGo
  rw [h0, h1, ev_must, ev_may]
  decide
theorem ev_v1 : sValid smallS norL = 0 := by
  have a : Idn.aCheck norL = 0 := by kernel_rfl
  have g : vGo smallS norL = 0 := by kernel_rfl
  have n : namesL norL = [Idn.mainN, cnN, numN] := by unfold namesL; rw [nor_srt]; rfl
  have c : getL norL Idn.mainN = [personN] := by unfold getL; rw [nor_srt]; kernel_rfl
  unfold sValid
  rw [a, ev_sound, g, n, c, ev_cl]
  rfl
theorem ev_v2 : sValid smallS bobL = 0 := by
  have a : Idn.aCheck bobL = 0 := by kernel_rfl
  have g : vGo smallS bobL = 0 := by kernel_rfl
  have n : namesL bobL = [Idn.mainN, cnN, numN] := by unfold namesL; rw [bob_srt]; rfl
  have c : getL bobL Idn.mainN = [personN] := by unfold getL; rw [bob_srt]; kernel_rfl
  unfold sValid
  rw [a, ev_sound, g, n, c, ev_cl]
  rfl
theorem ev_raw : eAttsK smallS [] rawL = (midL, 0) := by
  unfold eAttsK eAtt eVals eValsK sNorm
  rw [ev_sound]
  kernel_rfl
theorem ev_nor : eAttsK smallS [] norL = (norL, 0) := by
  unfold eAttsK eAtt eVals eValsK sNorm
  rw [ev_sound]
  kernel_rfl
theorem ev_n1 : eNormal smallS CNN rawL = ((annN, norL), 0) := by
  have c : Idn.cleanN CNN = (annN, 0) := by kernel_rfl
  have a : Idn.aCheck rawL = 0 := by kernel_rfl
  unfold eNormal eOut
  rw [c, a, raw_low, ev_raw, mid_srt, ev_v1]
  rfl
theorem ev_n2 : eNormal smallS annN norL = ((annN, norL), 0) := by
  have c : Idn.cleanN annN = (annN, 0) := by kernel_rfl
  have a : Idn.aCheck norL = 0 := by kernel_rfl
  unfold eNormal eOut
  rw [c, a, nor_low, ev_nor, nor_srt, ev_v1]
  rfl
theorem ev_mod : eMod smallS norL ⟨3, cnN, [[66, 111, 98]]⟩ = (bobL, 0) := by
  unfold eMod eAtt eVals eValsK sNorm
  rw [ev_sound]
  kernel_rfl
theorem ev_apply : eApply smallS annN norL [⟨3, cnN, [[66, 111, 98]]⟩] = ((annN, bobL), 0) := by
  have h1 : eModsK smallS norL [⟨3, cnN, [[66, 111, 98]]⟩] = (bobL, 0) := by
    unfold eModsK
    rw [ev_mod]; rfl
  have h2 : eOut smallS annN bobL = ((annN, bobL), 0) := by unfold eOut; rw [ev_v2]; rfl
  unfold eApply
  rw [ev_n2, h1]
  show (if _ then _ else if _ then _ else if _ then _ else eOut smallS annN bobL) = _
  rw [h2]
  kernel_rfl
end E8
end Go.Proofs.YtoopoglkeeoamaaGreatDoor
