/- Part 37 of the proof that the statements of identitylaw09 on matching hold at all arguments: the package variables hold what the program lays; nothing else is asked. -/
import Derived.Test.YtmamnmjfbadiiaaGreatDoorFz28
import Derived.Test.YtmamnmjfbadiiaaGreatDoorFz34
import Derived.Test.YtmamnmjfbadiiaaGreatDoorFz35
import Derived.Test.YtmamnmjfbadiiaaGreatDoorFz36
set_option linter.unusedVariables false
set_option linter.unusedSimpArgs false
set_option maxRecDepth 100000
set_option maxHeartbeats 16000000
/- Plain law of SchemaInherits. -/
namespace Go.Proofs.YtmamnmjfbadiiaaGreatDoor
open Go.RowKit Go.Sort
open Idn (L B Bs)
end Go.Proofs.YtmamnmjfbadiiaaGreatDoor
/- Plain functions: what the layer entry and the rest of the layer attrs compute. -/
namespace Go.Proofs.YtmamnmjfbadiiaaGreatDoor
open Go.RowKit Go.Sort
open Idn (L B Bs)
def eCheck (n : Bs) (l : List Idn.Att) : Int := if n.isEmpty || !validN n then 5 else Idn.aCheck l
def eValsK (s : Idn.Sch) (a : Bs) : List Bs → List Bs → List Bs × Int
 | acc, [] => (acc, 0)
 | acc, v :: l => if (sNorm s a v).2 != 0 then ([], (sNorm s a v).2) else eValsK s a (acc ++ [(sNorm s a v).1]) l
def eVals (s : Idn.Sch) (a : Bs) (l : List Bs) : List Bs × Int := eValsK s a [] l
def dupK : List Bs → List Bs → Bool
 | _, [] => false
 | p, v :: l => p.contains v || dupK (p ++ [v]) l
def eAtt (s : Idn.Sch) (a : Bs) (l : List Bs) : List Bs × Int := if (eVals s a l).2 != 0 then ([], (eVals s a l).2) else if dupK [] (eVals s a l).1 then ([], 7) else ((eVals s a l).1, 0)
def eAttsK (s : Idn.Sch) : List Idn.Att → List Idn.Att → List Idn.Att × Int
 | acc, [] => (acc, 0)
 | acc, a :: l => if (eAtt s a.name a.vals).2 != 0 then ([], (eAtt s a.name a.vals).2) else eAttsK s (acc ++ [⟨a.name, (eAtt s a.name a.vals).1⟩]) l
def leLow (a b : Idn.Att) : Bool := decide (Idn.lower a.name ≤ Idn.lower b.name)
def byLow (l : List Idn.Att) : List Idn.Att := l.mergeSort leLow
abbrev En := Bs × List Idn.Att
def eOut (s : Idn.Sch) (n : Bs) (l : List Idn.Att) : En × Int := if sValid s l != 0 then (([], []), sValid s l) else ((n, l), 0)
def eNormal (s : Idn.Sch) (n : Bs) (l : List Idn.Att) : En × Int :=
 if (Idn.cleanN n).2 != 0 || (Idn.cleanN n).1.isEmpty then (([], []), 5)
 else if Idn.aCheck l != 0 then (([], []), Idn.aCheck l)
 else if (eAttsK s [] (byLow l)).2 != 0 then (([], []), (eAttsK s [] (byLow l)).2)
 else eOut s (Idn.cleanN n).1 (Idn.aSorted (eAttsK s [] (byLow l)).1)
def aSet (l : List Idn.Att) (n : Bs) (v : List Bs) : List Idn.Att := Idn.rSorted (l.filter (fun a => !decide (a.name = Idn.lower n)) ++ [⟨Idn.lower n, v⟩])
structure Md where
 op : Int
 name : Bs
 vals : List Bs
def minus (a b : List Bs) : List Bs := a.filter fun x => !b.contains x
end Go.Proofs.YtmamnmjfbadiiaaGreatDoor
/- Plain laws: the general normal form of attributes; attributes in the order of their names. -/
namespace Idn
open Go
theorem mem_lows {l : List Att} {m : Bs} : m ∈ lows l ↔ valsOf l m ≠ [] := by
 unfold lows valsOf
 rw [Ne, List.flatMap_eq_nil_iff, List.mem_map]
 constructor
 ·rintro ⟨a, ha, rfl⟩ h
  rw [List.mem_filter] at ha
  have := h a (List.mem_filter.2 ⟨ha.1, by simp⟩)
  rw [this] at ha; simp at ha
 ·intro h
  refine Decidable.byContradiction fun hn => h fun a ha => ?_
  rw [List.mem_filter] at ha
  refine Decidable.byContradiction fun hv => hn ⟨a, List.mem_filter.2 ⟨ha.1, ?_⟩, by simpa using ha.2⟩
  simpa using List.length_pos_iff.2 hv
theorem sort_names {q : List Att} {ns : List Bs} {f : Bs → Att} (h1 : ∀ a ∈ q, a = f a.name) (h2 : (q.map (·.name)).Nodup) (h3 : ∀ m, m ∈ q.map (·.name) ↔ m ∈ ns) (h4 : ns.Pairwise (· < ·)) :
  q.mergeSort (fun a b => decide (a.name ≤ b.name)) = ns.map f := by
 have hp : (q.mergeSort fun a b => decide (a.name ≤ b.name)).Perm q := List.mergeSort_perm _ _
 have hs : (q.mergeSort fun a b => decide (a.name ≤ b.name)).Pairwise fun a b => decide (a.name ≤ b.name) = true := List.pairwise_mergeSort (fun a b c h1 h2 => by
   rw [decide_eq_true_eq] at *; exact List.le_trans h1 h2) (fun a b => by
   rw [Bool.or_eq_true, decide_eq_true_eq, decide_eq_true_eq]; exact List.le_total _ _) _
 generalize (q.mergeSort fun a b => decide (a.name ≤ b.name)) = r at *
 have e : r.map (·.name) = ns := by
  refine uniq _ _ ?_ h4 fun x => by rw [(hp.map (·.name)).mem_iff]; exact h3 x
  rw [← (hp.map (·.name)).nodup_iff] at h2
  rw [List.pairwise_map]
  rw [List.nodup_iff_pairwise_ne, List.pairwise_map] at h2
  refine List.Pairwise.imp₂ ?_ hs h2
  intro a b h1 h2
  rw [decide_eq_true_eq] at h1
  exact Decidable.byContradiction fun hn => h2 (List.le_antisymm h1 (List.not_lt.1 hn))
 rw [← e, List.map_map]
 have : ∀ a ∈ r, (f ∘ (·.name)) a = a := fun a ha => (h1 a (hp.mem_iff.1 ha)).symm
 rw [List.map_congr_left this, List.map_id']
theorem grp_vals {l : List Att} {b : Att} (hb : b ∈ grp [] l) : b.vals = valsOf l b.name := by
 have h1 := tot_self (grp [] l) (grp_nd l [] (by simp)) b hb
 rw [grp_tot _ l [] (by simp)] at h1
 exact h1.symm
def full (a : Att) : Bool := decide (a.vals.length ≠ 0)
theorem sortedG_law (l : List Att) : (((grp [] l).filter full).map normA).mergeSort (fun a b => decide (a.name ≤ b.name)) = rSorted l := by
 refine sort_names (f := rOne l) (fun a ha => ?_) ?_ (fun m => ?_) (insAll_lt _)
 ·obtain ⟨b, hb, rfl⟩ := List.mem_map.1 ha
  have hv := grp_vals (List.mem_filter.1 hb).1
  unfold normA rOne
  dsimp only
  rw [← hv]
  congr 1
  exact law b.vals
 ·rw [norm_names]
  exact (List.filter_sublist.map _).nodup (grp_nd l [] (by simp))
 ·rw [norm_names, insAll_mem, mem_lows]
  constructor
  ·intro h
   obtain ⟨b, hb, rfl⟩ := List.mem_map.1 h
   rw [List.mem_filter] at hb
   rw [← grp_vals hb.1]
   intro e
   have := hb.2
   unfold full at this
   rw [e] at this
   simp at this
  ·intro h
   have hm : m ∈ (grp [] l).map (·.name) := by
    rw [grp_names]
    have h2 := mem_lows.2 h
    unfold lows at h2
    obtain ⟨a, ha, rfl⟩ := List.mem_map.1 h2
    exact .inr (List.mem_map.2 ⟨a, (List.mem_filter.1 ha).1, rfl⟩)
   obtain ⟨b, hb, rfl⟩ := List.mem_map.1 hm
   refine List.mem_map.2 ⟨b, List.mem_filter.2 ⟨hb, ?_⟩, rfl⟩
   unfold full
   rw [grp_vals hb, decide_eq_true_eq]
   intro e
   exact h (List.eq_nil_of_length_eq_zero e)
end Idn
namespace Go.Proofs.YtmamnmjfbadiiaaGreatDoor
open Go.RowKit Go.Sort
open Idn (L B Bs)
theorem tyLook_low (s : Idn.Sch) (n : Bs) : tyLook s (Idn.lower n) = tyLook s n := by unfold tyLook Idn.ixT; rw [Idn.lower_lower]
theorem sNorm_low (s : Idn.Sch) (n v : Bs) : sNorm s (Idn.lower n) v = sNorm s n v := by unfold sNorm kNorm; rw [tyLook_low]
end Go.Proofs.YtmamnmjfbadiiaaGreatDoor
/- Plain laws: the changes of attributes by the reference are the layer's; differences. -/
namespace Idn
open Go
theorem find_name (f : Bs → Att) (hf : ∀ n, (f n).name = n) (n : Bs) : ∀ ns : List Bs, (match (ns.map f).findIdx? (fun a => decide (a.name = n)) with
    | none => []
    | some k => match (ns.map f)[k]? with | none => [] | some a => a.vals) = if n ∈ ns then (f n).vals else []
  | [] => by simp
  | m :: ns => by
    have ih := find_name f hf n ns
    rw [List.map_cons, List.findIdx?_cons, hf m]
    by_cases h : m = n
    · subst h; simp
    · have hn : n ≠ m := fun e => h e.symm
      simp only [h, decide_false, Bool.false_eq_true, if_false, List.mem_cons, hn, false_or]
      rw [← ih]
      cases (ns.map f).findIdx? (fun a => decide (a.name = n)) with
      | none => rfl
      | some k => simp
theorem insAll_nodup (v : List Bs) : (insAll v).Nodup := (insAll_lt v).imp fun h e => by subst e; exact List.lt_irrefl _ h
theorem rSorted_name {l : List Att} {a : Att} (h : a ∈ rSorted l) : lower a.name = a.name := by
 unfold rSorted at h
 obtain ⟨m, hm, rfl⟩ := List.mem_map.1 h
 rw [insAll_mem] at hm
 unfold lows at hm
 obtain ⟨b, _, rfl⟩ := List.mem_map.1 hm
 exact lower_lower _
end Idn
namespace Go.Proofs.YtmamnmjfbadiiaaGreatDoor
open Go.RowKit Go.Sort
open Idn (L B Bs)
theorem rGet_law (l : List Idn.Att) (n : Bs) : rGet l n = Idn.insAll (Idn.valsOf l (Idn.lower n)) := by
 unfold rGet Idn.rSorted
 refine Eq.trans (Idn.find_name (Idn.rOne l) (fun _ => rfl) (Idn.lower n) (Idn.insAll (Idn.lows l))) ?_
 split
 ·rfl
 ·rename_i h
  rw [Idn.insAll_mem, Idn.mem_lows] at h
  rw [Decidable.not_not.1 h]; rfl
theorem valsOf_sorted (m : List Idn.Att) (n : Bs) : Idn.valsOf (Idn.rSorted m) (Idn.lower n) = Idn.insAll (Idn.valsOf m (Idn.lower n)) := by
  unfold Idn.rSorted
  have hlow : ∀ x ∈ Idn.insAll (Idn.lows m), Idn.lower x = x := fun x hx => by
    rw [Idn.insAll_mem] at hx
    unfold Idn.lows at hx
    obtain ⟨b, _, rfl⟩ := List.mem_map.1 hx
    exact Idn.lower_lower _
  have hnd := Idn.insAll_nodup (Idn.lows m)
  have hmem : Idn.lower n ∈ Idn.insAll (Idn.lows m) ↔ Idn.valsOf m (Idn.lower n) ≠ [] := by rw [Idn.insAll_mem, Idn.mem_lows]
  generalize Idn.insAll (Idn.lows m) = ns at *
  have key : ∀ ns : List Bs, (∀ x ∈ ns, Idn.lower x = x) → ns.Nodup → Idn.valsOf (ns.map (Idn.rOne m)) (Idn.lower n) = if Idn.lower n ∈ ns then Idn.insAll (Idn.valsOf m (Idn.lower n)) else [] := by
    intro ns
    induction ns with
    | nil => intro _ _; rfl
    | cons x ns ih =>
      intro h1 h2
      rw [List.nodup_cons] at h2
      have ih := ih (fun y hy => h1 y (List.mem_cons_of_mem _ hy)) h2.2
      have hx := h1 x List.mem_cons_self
      unfold Idn.valsOf at ih ⊢
      rw [List.map_cons]
      by_cases he : x = Idn.lower n
      · have hn : Idn.lower n ∉ ns := he ▸ h2.1
        rw [if_neg hn] at ih
        rw [List.filter_cons_of_pos (by show decide (Idn.lower x = Idn.lower n) = true; rw [hx, he]; simp), List.flatMap_cons, ih, List.append_nil, if_pos (by rw [he]; exact List.mem_cons_self)]
        show Idn.insAll (Idn.valsOf m x) = _
        rw [he]; rfl
      · rw [List.filter_cons_of_neg (by show ¬ decide (Idn.lower x = Idn.lower n) = true; rw [hx]; simpa using he), ih]
        have : Idn.lower n ∈ x :: ns ↔ Idn.lower n ∈ ns := by
          rw [List.mem_cons]
          exact ⟨fun h => h.resolve_left fun e => he e.symm, .inr⟩
        simp only [this]
  rw [key ns hlow hnd]
  split
  · rfl
  · rename_i h
    rw [hmem, Decidable.not_not] at h
    rw [h]; rfl
theorem insAll_idem (v : List Bs) : Idn.insAll (Idn.insAll v) = Idn.insAll v := Idn.uniq _ _ (Idn.insAll_lt _) (Idn.insAll_lt _) fun x => by rw [Idn.insAll_mem]
end Go.Proofs.YtmamnmjfbadiiaaGreatDoor
/- Plain laws: the differences of two entries by the reference are the layer's. -/
namespace Go.Proofs.YtmamnmjfbadiiaaGreatDoor
open Go.RowKit Go.Sort
open Idn (L B Bs)
theorem insAll_ne {v : List Bs} (h : v ≠ []) : (Idn.insAll v).length ≠ 0 := by
  intro e
  have e2 := List.eq_nil_of_length_eq_zero e
  cases v with
  | nil => exact h rfl
  | cons x v =>
    have := (Idn.insAll_mem (x :: v) x).2 List.mem_cons_self
    rw [e2] at this; cases this
theorem rSorted_full (l : List Idn.Att) : ∀ a ∈ Idn.rSorted l, a.vals.length ≠ 0 := by
 intro a ha
 unfold Idn.rSorted at ha
 obtain ⟨m, hm, rfl⟩ := List.mem_map.1 ha
 rw [Idn.insAll_mem, Idn.mem_lows] at hm
 exact insAll_ne hm
end Go.Proofs.YtmamnmjfbadiiaaGreatDoor
/- Plain law of EntryStable. -/
namespace Go.Proofs.YtmamnmjfbadiiaaGreatDoor
open Go.RowKit Go.Sort
open Idn (L B Bs)
def Nor (s : Idn.Sch) (n : Bs) (l : List Bs) : Prop := ∀ x ∈ l, sNorm s n x = (x, 0)
def QN (s : Idn.Sch) (l : List Idn.Att) : Prop := Idn.rSorted l = l ∧ ∀ a ∈ l, Nor s a.name a.vals
theorem Nor.low {s : Idn.Sch} {n : Bs} {l : List Bs} (h : Nor s n l) : Nor s (Idn.lower n) l := fun x hx => by rw [sNorm_low]; exact h x hx
theorem Nor.same {s : Idn.Sch} {n m : Bs} {l : List Bs} (h : Nor s n l) (e : Idn.lower n = Idn.lower m) : Nor s m l := fun x hx => by rw [← sNorm_low, ← e, sNorm_low]; exact h x hx
theorem mem_valsOf {l : List Idn.Att} {n x : Bs} : x ∈ Idn.valsOf l n ↔ ∃ a ∈ l, Idn.lower a.name = n ∧ x ∈ a.vals := by
 unfold Idn.valsOf
 rw [List.mem_flatMap]
 constructor
 ·rintro ⟨a, ha, hx⟩
  rw [List.mem_filter, decide_eq_true_eq] at ha
  exact ⟨a, ha.1, ha.2, hx⟩
 ·rintro ⟨a, h1, h2, hx⟩
  exact ⟨a, List.mem_filter.2 ⟨h1, by rw [decide_eq_true_eq]; exact h2⟩, hx⟩
theorem valsOf_nor {s : Idn.Sch} {l : List Idn.Att} (h : ∀ a ∈ l, Nor s a.name a.vals) (n : Bs) : Nor s n (Idn.valsOf l (Idn.lower n)) := fun x hx => by
 obtain ⟨a, ha, e, hx⟩ := mem_valsOf.1 hx
 exact Nor.same (h a ha) e x hx
theorem rSorted_nor {s : Idn.Sch} {l : List Idn.Att} (h : ∀ a ∈ l, Nor s a.name a.vals) : ∀ a ∈ Idn.rSorted l, Nor s a.name a.vals := by
 intro a ha x hx
 have hl := Idn.rSorted_name ha
 unfold Idn.rSorted at ha
 obtain ⟨m, hm, rfl⟩ := List.mem_map.1 ha
 have hx : x ∈ Idn.insAll (Idn.valsOf l m) := hx
 rw [Idn.insAll_mem] at hx
 have hl : Idn.lower m = m := hl
 rw [← hl] at hx
 exact valsOf_nor h m x hx
theorem rSorted_idem (l : List Idn.Att) : Idn.rSorted (Idn.rSorted l) = Idn.rSorted l := by
 have e1 : Idn.insAll (Idn.lows (Idn.rSorted l)) = Idn.insAll (Idn.lows l) := by
  refine Idn.uniq _ _ (Idn.insAll_lt _) (Idn.insAll_lt _) fun x => ?_
  rw [Idn.insAll_mem]
  have : Idn.lows (Idn.rSorted l) = Idn.insAll (Idn.lows l) := by
   rw [Idn.lows_all (rSorted_full l)]
   have h2 : ∀ a ∈ Idn.rSorted l, Idn.lower a.name = a.name := fun a ha => Idn.rSorted_name ha
   rw [List.map_congr_left h2]
   unfold Idn.rSorted
   rw [List.map_map]
   exact List.map_id' _
  rw [this]
 have e2 : ∀ n ∈ Idn.insAll (Idn.lows l), Idn.rOne (Idn.rSorted l) n = Idn.rOne l n := fun n hn => by
  have hn : Idn.lower n = n := by
   rw [Idn.insAll_mem] at hn
   unfold Idn.lows at hn
   obtain ⟨b, _, rfl⟩ := List.mem_map.1 hn
   exact Idn.lower_lower _
  have h := valsOf_sorted l n
  rw [hn] at h
  unfold Idn.rOne
  rw [h, insAll_idem]
 rw [show Idn.rSorted (Idn.rSorted l) = (Idn.insAll (Idn.lows (Idn.rSorted l))).map (Idn.rOne (Idn.rSorted l)) from rfl, e1, List.map_congr_left e2]
 rfl
theorem QN.sorted {s : Idn.Sch} {l : List Idn.Att} (h : ∀ a ∈ l, Nor s a.name a.vals) : QN s (Idn.rSorted l) := ⟨rSorted_idem l, rSorted_nor h⟩
theorem QN.full {s : Idn.Sch} {l : List Idn.Att} (h : QN s l) : ∀ a ∈ l, a.vals.length ≠ 0 := fun a ha => rSorted_full l a (h.1.symm ▸ ha)
theorem QN.name {s : Idn.Sch} {l : List Idn.Att} (h : QN s l) : ∀ a ∈ l, Idn.lower a.name = a.name := fun a ha => Idn.rSorted_name (l := l) (h.1.symm ▸ ha)
theorem QN.set {s : Idn.Sch} {l : List Idn.Att} (h : QN s l) {n : Bs} {v : List Bs} (hv : Nor s n v) : QN s (aSet (Idn.rSorted l) n v) := by
 unfold aSet
 refine QN.sorted fun a ha => ?_
 rcases List.mem_append.1 ha with ha | ha
 ·have := (List.mem_filter.1 ha).1
  rw [h.1] at this
  exact h.2 a this
 ·rw [List.mem_singleton] at ha
  subst ha
  exact hv.low
end Go.Proofs.YtmamnmjfbadiiaaGreatDoor
/- Plain law of EntryTurns. -/
namespace Go.Proofs.YtmamnmjfbadiiaaGreatDoor
open Go.RowKit Go.Sort
open Idn (L B Bs)
theorem rSorted_ext {S T : List Idn.Att} (h : ∀ m, rGet S m = rGet T m) : Idn.rSorted S = Idn.rSorted T := by
 have hv : ∀ m, Idn.lower m = m → Idn.insAll (Idn.valsOf S m) = Idn.insAll (Idn.valsOf T m) := fun m hm => by
  have := h m
  rw [rGet_law, rGet_law, hm] at this
  exact this
 have low : ∀ (l : List Idn.Att) m, m ∈ Idn.lows l → Idn.lower m = m := fun l m hm => by
  unfold Idn.lows at hm
  obtain ⟨a, _, rfl⟩ := List.mem_map.1 hm
  exact Idn.lower_lower _
 have ne : ∀ v : List Bs, v ≠ [] ↔ Idn.insAll v ≠ [] := fun v => by
  constructor
  ·intro h e; exact insAll_ne h (by rw [e]; rfl)
  ·intro h e; exact h (by rw [e]; rfl)
 have hmem : ∀ m, m ∈ Idn.lows S ↔ m ∈ Idn.lows T := fun m => by
  constructor
  ·intro hm
   have hl := low S m hm
   rw [Idn.mem_lows, ne, ← hv m hl, ← ne, ← Idn.mem_lows]; exact hm
  ·intro hm
   have hl := low T m hm
   rw [Idn.mem_lows, ne, hv m hl, ← ne, ← Idn.mem_lows]; exact hm
 have e1 : Idn.insAll (Idn.lows S) = Idn.insAll (Idn.lows T) := Idn.uniq _ _ (Idn.insAll_lt _) (Idn.insAll_lt _) fun x => by rw [Idn.insAll_mem, Idn.insAll_mem]; exact hmem x
 unfold Idn.rSorted
 rw [e1]
 refine List.map_congr_left fun m hm => ?_
 rw [Idn.insAll_mem] at hm
 unfold Idn.rOne
 rw [hv m (low T m hm)]
theorem QN.ext {s : Idn.Sch} {S T : List Idn.Att} (h1 : QN s S) (h2 : QN s T) (h : ∀ m, rGet S m = rGet T m) : S = T := by
 rw [← h1.1, ← h2.1]; exact rSorted_ext h
structure Turned (s : Idn.Sch) (S : List Idn.Att) (n : Bs) (v : List Bs) (S' : List Idn.Att) : Prop where
 q : QN s S'
 g : ∀ m, Idn.lower m = m → rGet S' m = if m = n then v else rGet S m
theorem Turned.trans {s : Idn.Sch} {S S' S'' : List Idn.Att} {n : Bs} {v v' : List Bs} (h : Turned s S n v S') (h' : Turned s S' n v' S'') : Turned s S n v' S'' :=
 ⟨h'.q, fun m hm => by
  rw [h'.g m hm]
  split
  ·rfl
  ·rename_i e; rw [h.g m hm, if_neg e]⟩
section
variable {s : Idn.Sch} {S : List Idn.Att} {n : Bs} {old new : List Bs}
end
end Go.Proofs.YtmamnmjfbadiiaaGreatDoor
/- The values of the small case of identitylaw08, reckoned. -/
namespace Go.Proofs.YtmamnmjfbadiiaaGreatDoor
open Go.RowKit Go.Sort
open Idn (L B Bs)
namespace E8
def personN : Bs := [112, 101, 114, 115, 111, 110]
def cnN : Bs := [99, 110]
def snN : Bs := [115, 110]
def numN : Bs := [110, 117, 109]
def smallS : Idn.Sch := ⟨[⟨Idn.mainN, 1, false⟩, ⟨cnN, 1, false⟩, ⟨snN, 1, false⟩, ⟨numN, 3, false⟩], [⟨personN, [], [Idn.mainN, cnN], [snN, numN]⟩]⟩
def annN : Bs := [99, 110, 61, 97, 110, 110]
def CNN : Bs := [67, 78, 61, 65, 110, 110]
def ClassN : Bs := [67, 108, 97, 115, 115]
def rawL : List Idn.Att := [⟨ClassN, [personN]⟩, ⟨cnN, [[65, 110, 110]]⟩, ⟨numN, [[55]]⟩]
def midL : List Idn.Att := [⟨ClassN, [personN]⟩, ⟨cnN, [[97, 110, 110]]⟩, ⟨numN, [[55]]⟩]
def norL : List Idn.Att := [⟨Idn.mainN, [personN]⟩, ⟨cnN, [[97, 110, 110]]⟩, ⟨numN, [[55]]⟩]
def snL : List Idn.Att := [⟨snN, [[97, 32, 98]]⟩]
theorem ev_check : Idn.sCheck smallS = 0 := by kernel_rfl
theorem ev_sound : sound smallS = smallS := by rw [sound, if_pos ev_check]
theorem ev_c1 : eCheck annN [] = 0 := by kernel_rfl
theorem ev_c2 : eCheck [] [] = 5 := by kernel_rfl
theorem ev_c3 : eCheck annN snL = 0 := by kernel_rfl
theorem srt12 (a b : Bs) (h : decide (a ≤ b) = true) : Idn.srt [a, b] = [a, b] := by
 unfold Idn.srt
 simp [List.mergeSort, List.MergeSort.Internal.splitInTwo, List.merge, h, -decide_eq_true_eq]
theorem mrg3 {a b c : Idn.Att} {le : Idn.Att → Idn.Att → Bool} (h1 : le a b = true) (h2 : le b c = true) (h3 : le a c = true) : [a, b, c].mergeSort le = [a, b, c] := by
 simp [List.mergeSort, List.MergeSort.Internal.splitInTwo, List.merge, h1, h2, h3]
theorem raw_low : byLow rawL = rawL := by unfold byLow rawL; exact mrg3 (by decide) (by decide) (by decide)
theorem mid_srt : Idn.aSorted midL = norL := by
 have h : (Idn.grp [] midL).map Idn.normA = norL := by kernel_rfl
 unfold Idn.aSorted
 rw [h]; unfold norL; exact mrg3 (by decide) (by decide) (by decide)
theorem nor_srt : Idn.aSorted norL = norL := by
 have h : (Idn.grp [] norL).map Idn.normA = norL := by kernel_rfl
 unfold Idn.aSorted
 rw [h]; unfold norL; exact mrg3 (by decide) (by decide) (by decide)
theorem cmpM : Lib.compact [Idn.mainN, cnN] = [Idn.mainN, cnN] := by kernel_rfl
theorem cmp4 : Lib.compact [Idn.mainN, cnN, numN, snN] = [Idn.mainN, cnN, numN, snN] := by kernel_rfl
theorem ev_must : mustL smallS personN = [Idn.mainN, cnN] := by
 have h : (((Idn.lin smallS personN).filterMap (smallS.classes[·]?)).flatMap (·.must)).map Idn.lower = [Idn.mainN, cnN] := by kernel_rfl
 unfold mustL merged
 rw [h]
 have e : sorted [Idn.mainN, cnN] = [Idn.mainN, cnN] := srt12 _ _ (by decide)
 rw [e, cmpM]
theorem srt4 : sorted [Idn.mainN, cnN, snN, numN] = [Idn.mainN, cnN, numN, snN] := by
 unfold sorted
 have e1 : decide (Idn.mainN ≤ cnN) = true := by decide
 have e2 : decide (snN ≤ numN) = false := by decide
 have e3 : decide (Idn.mainN ≤ numN) = true := by decide
 have e4 : decide (cnN ≤ numN) = true := by decide
 simp [List.mergeSort, List.MergeSort.Internal.splitInTwo, List.merge, e1, e2, e3, e4, -decide_eq_true_eq, -decide_eq_false_iff_not]
theorem ev_may : mayL smallS personN = [Idn.mainN, cnN, numN, snN] := by
 have h : (mustL smallS personN ++ ((Idn.lin smallS personN).filterMap (smallS.classes[·]?)).flatMap (·.may)).map Idn.lower = [Idn.mainN, cnN, snN, numN] := by
  rw [ev_must]; kernel_rfl
 unfold mayL merged
 rw [h, srt4, cmp4]
theorem ev_cl : classedB smallS [Idn.mainN, cnN, numN] [personN] = true := by
 have h0 : Idn.fold personN = personN := by kernel_rfl
 have h1 : clKey smallS personN = true := by kernel_rfl
 unfold classedB clsGo clsGo
 rw [h0, h1, ev_must, ev_may]
 decide
theorem ev_v1 : sValid smallS norL = 0 := by
 have a : Idn.aCheck norL = 0 := by kernel_rfl
 have g : vGo smallS norL = 0 := by kernel_rfl
 have n : namesL norL = [Idn.mainN, cnN, numN] := by unfold namesL; rw [nor_srt]; rfl
 have c : getL norL Idn.mainN = [personN] := by unfold getL; rw [nor_srt]; kernel_rfl
 unfold sValid
 rw [a, ev_sound, g, n, c, ev_cl]
 rfl
theorem ev_raw : eAttsK smallS [] rawL = (midL, 0) := by
 unfold eAttsK eAtt eVals eValsK sNorm
 rw [ev_sound]
 kernel_rfl
theorem ev_n1 : eNormal smallS CNN rawL = ((annN, norL), 0) := by
 have c : Idn.cleanN CNN = (annN, 0) := by kernel_rfl
 have a : Idn.aCheck rawL = 0 := by kernel_rfl
 unfold eNormal eOut
 rw [c, a, raw_low, ev_raw, mid_srt, ev_v1]
 rfl
end E8
end Go.Proofs.YtmamnmjfbadiiaaGreatDoor
/- Modifications and entries in memory. -/
namespace Go.Proofs.YtmamnmjfbadiiaaGreatDoor
open Go.RowKit Go.Sort
open Idn (L B Bs)
def EMd (w : World) (hi : Nat) (x : Md) (cs : List Value) : Prop := ∃ v, cs = [.int .i64 x.op, sv x.name, v] ∧ StrsV w hi v x.vals
abbrev ModsV (w : World) (hi : Nat) (v : Value) (l : List Md) : Prop := SlV (EMd w hi) w hi 3 v l
theorem EMd.keep {w w' : World} {hi : Nat} {x : Md} {cs : List Value} (h : EMd w hi x cs) (hb : Below hi w w') : EMd w' hi x cs := by
 obtain ⟨v, h1, h2⟩ := h
 exact ⟨v, h1, SlV.keep h2 hb⟩
theorem EMd.mono {w : World} {hi hi' : Nat} {x : Md} {cs : List Value} (h : EMd w hi x cs) (hh : hi ≤ hi') : EMd w hi' x cs := by
 obtain ⟨v, h1, h2⟩ := h
 exact ⟨v, h1, SlV.mono h2 hh⟩
theorem ModsV.keep {w w' : World} {hi : Nat} {v : Value} {l : List Md} (h : ModsV w hi v l) (hb : Below hi w w') : ModsV w' hi v l := SlV.keepE h hb fun _ _ _ he => he.keep hb
theorem ModsV.mono {w : World} {hi hi' : Nat} {v : Value} {l : List Md} (h : ModsV w hi v l) (hh : hi ≤ hi') : ModsV w hi' v l :=
 SlV.mono (SlV.keepE h (Below.refl _ _) fun _ _ _ he => he.mono hh) hh
theorem ModsV.cell {w : World} {hi : Nat} {A : Option Addr} {n c : Nat} {l : List Md} (h : ModsV w hi (.slice A n c) l) {k : Nat} (hk : k < l.length) :
  ∃ b off v, A = some ⟨b, off, none⟩ ∧ b < hi ∧ w.cell? ⟨b, off + k * 3, none⟩ = some (.int .i64 l[k].op) ∧ w.cell? ⟨b, off + k * 3 + 1, none⟩ = some (.string (B l[k].name)) ∧ w.cell? ⟨b, off + k * 3 + 2, none⟩ = some v ∧ StrsV w hi v l[k].vals := by
 obtain ⟨b, off, hA, hb, cs, h1, ⟨v, h2, h4⟩, h3⟩ := h.at_ hk
 subst h2
 exact ⟨b, off, v, hA, hb, by simpa using h3 0 _ rfl, by simpa [sv, Nat.add_assoc] using h3 1 _ rfl, by simpa [Nat.add_assoc] using h3 2 _ rfl, h4⟩
def EntW (w : World) (hi : Nat) (v : Value) (n : Bs) (l : List Idn.Att) : Prop := ∃ a, v = .agg #[.string (B n), a] ∧ AttsV w hi a l
theorem EntW.keep {w w' : World} {hi : Nat} {v : Value} {n : Bs} {l : List Idn.Att} (h : EntW w hi v n l) (hb : Below hi w w') : EntW w' hi v n l := by
 obtain ⟨a, e, h1⟩ := h
 exact ⟨a, e, AttsV.keep h1 hb⟩
theorem EntW.mono {w : World} {hi hi' : Nat} {v : Value} {n : Bs} {l : List Idn.Att} (h : EntW w hi v n l) (hh : hi ≤ hi') : EntW w hi' v n l := by
 obtain ⟨a, e, h1⟩ := h
 exact ⟨a, e, AttsV.mono h1 hh⟩
end Go.Proofs.YtmamnmjfbadiiaaGreatDoor
/- name.Valid, entry.Check. -/
namespace Go.Proofs.YtmamnmjfbadiiaaGreatDoor
open Go.RowKit Go.Sort
open Idn (L B Bs drop_L take_L size_L)
end Go.Proofs.YtmamnmjfbadiiaaGreatDoor
/- entry: normal, twice. -/
namespace Go.Proofs.YtmamnmjfbadiiaaGreatDoor
open Go.RowKit Go.Sort
open Idn (L B Bs drop_L take_L size_L)
end Go.Proofs.YtmamnmjfbadiiaaGreatDoor
/- entry: the order of Normal: slices.SortFunc at attributes, by their names in lower case. -/
namespace Go.Proofs.YtmamnmjfbadiiaaGreatDoor
open Go.RowKit Go.Sort
open Idn (L B Bs drop_L take_L size_L)
def RowV (w : World) (base : Nat) (v : Value) (ps : List (Idn.Att × Value)) : Prop :=
 w.ownsRow base 56 2 v ps.length (rowA ps) ∧ ∀ p ∈ ps, ∃ A c, p.2 = .slice A p.1.vals.length c
end Go.Proofs.YtmamnmjfbadiiaaGreatDoor
/- Plain functions: what the layer filter computes. -/
namespace Go.Proofs.YtmamnmjfbadiiaaGreatDoor
open Go.RowKit Go.Sort
open Idn (L B Bs)
inductive Flt where
 | mk (kind : Int) (name value : Bs) (parts : List Bs) (kids : List Flt)
namespace Flt
def kind : Flt → Int | .mk k _ _ _ _ => k
def name : Flt → Bs | .mk _ n _ _ _ => n
def value : Flt → Bs | .mk _ _ v _ _ => v
def parts : Flt → List Bs | .mk _ _ _ p _ => p
def kids : Flt → List Flt | .mk _ _ _ _ l => l
end Flt
mutual
def fSize : Flt → Nat
 | .mk _ _ _ _ ks => fSizes ks + 1
def fSizes : List Flt → Nat
 | [] => 0
 | f :: l => fSize f + fSizes l
end
mutual
def fDep : Flt → Nat
 | .mk _ _ _ _ ks => fDeps ks + 1
def fDeps : List Flt → Nat
 | [] => 0
 | f :: l => max (fDep f) (fDeps l)
end
def isCmp (k : Int) : Bool := decide (4 ≤ k) && decide (k ≤ 8)
def prtF (s : Bs) : Bool := s.all Idn.printable && decide (s.length ≤ 256)
def partsF (l : List Bs) : Bool := decide (2 ≤ l.length) && (decide (l.length ≤ 16) && (!((l.drop 1).dropLast.contains []) && l.any fun s => !s.isEmpty))
def formF (k : Int) (n v : Bs) (ps : List Bs) (m : Nat) : Bool :=
 if k = 1 ∨ k = 2 then n.isEmpty && (v.isEmpty && ps.isEmpty)
 else if k = 3 then n.isEmpty && (v.isEmpty && (ps.isEmpty && decide (m = 1)))
 else if k = 4 ∨ k = 5 ∨ k = 6 then ps.isEmpty && decide (m = 0)
 else if k = 7 then v.isEmpty && (ps.isEmpty && decide (m = 0))
 else if k = 8 then v.isEmpty && (decide (m = 0) && partsF ps)
 else false
def ownErr (k : Int) (n v : Bs) (ps : List Bs) (m : Nat) : Int :=
 if !formF k n v ps m then 4 else if isCmp k then (if !Idn.name n then 5 else if (decide (k ≤ 6) && !Idn.clean v) || ps.any fun s => !prtF s then 8 else 0) else 0
mutual
def nodeErr : Flt → Int
 | .mk k n v ps ks => if ownErr k n v ps ks.length != 0 then ownErr k n v ps ks.length else nodeErrs ks
def nodeErrs : List Flt → Int
 | [] => 0
 | f :: l => if nodeErr f != 0 then nodeErr f else nodeErrs l
end
def fCheck (f : Flt) : Int := if 64 < fSize f ∨ 8 < fDep f then 3 else nodeErr f
def escF1 (c : UInt8) : Bs := if c = 40 then [92, 50, 56] else if c = 41 then [92, 50, 57] else if c = 42 then [92, 50, 97] else if c = 92 then [92, 53, 99] else [c]
def escF (l : Bs) : Bs := l.flatMap escF1
def txtF (k : Int) (n v : Bs) (ps : List Bs) (kids : Bs) : Bs :=
 if k = 1 then [40, 38] ++ kids ++ [41]
 else if k = 2 then [40, 124] ++ kids ++ [41]
 else if k = 3 then [40, 33] ++ kids ++ [41]
 else if k = 4 then [40] ++ n ++ [61] ++ escF v ++ [41]
 else if k = 5 then [40] ++ n ++ [62, 61] ++ escF v ++ [41]
 else if k = 6 then [40] ++ n ++ [60, 61] ++ escF v ++ [41]
 else if k = 7 then [40] ++ n ++ [61, 42, 41]
 else [40] ++ n ++ [61] ++ Idn.joinL [42] (ps.map escF) ++ [41]
mutual
def fTxt : Flt → Bs
 | .mk k n v ps ks => txtF k n v ps (fTxts ks)
def fTxts : List Flt → Bs
 | [] => []
 | f :: l => fTxt f ++ fTxts l
end
def fText (f : Flt) : Bs × Int := if fCheck f != 0 then ([], fCheck f) else if 4096 < (fTxt f).length then ([], 3) else (fTxt f, 0)
def fnd (p : Bs) : Bs → Option Bs
 | [] => if p = [] then some [] else none
 | c :: l => if p.isPrefixOf (c :: l) then some ((c :: l).drop p.length) else fnd p l
def fnds : List Bs → Bs → Option Bs
 | [], r => some r
 | p :: l, r => (fnd p r).bind (fnds l)
def cutP (p s : Bs) : Option Bs := if p.isPrefixOf s then some (s.drop p.length) else none
def cutS (p s : Bs) : Option Bs := if p.isSuffixOf s then some (s.take (s.length - p.length)) else none
def exactF (x : Bs) (l : List Bs) : Bool := ((cutP (l.headD []) x).bind fun r => (cutS (l.getLastD []) r).bind fun r => fnds (l.drop 1).dropLast r).isSome
def foldF (x : Bs) (l : List Bs) : Bool :=
 if l.length < 2 then false else match (cutP (Idn.lower (l.headD [])) (Idn.fold x)).bind fun r => fnds ((l.drop 1).dropLast.map Idn.lower) r with
 | none => false
 | some r => (Idn.lower (l.getLastD [])).isSuffixOf r
def satF (s : Idn.Sch) (y k : Int) (n v : Bs) (ps : List Bs) (x : Bs) : Bool :=
 if k = 7 then true
 else if k = 8 then decide ((sNorm s n x).2 = 0) && ((decide (y = 1) && foldF x ps) || (decide (y = 2) && exactF x ps))
 else decide ((sComp s n x v).2 = 0) && ((decide (k = 4) && decide ((sComp s n x v).1 = 0)) || ((decide (k = 5) && decide (0 ≤ (sComp s n x v).1)) || (decide (k = 6) && decide ((sComp s n x v).1 ≤ 0))))
def cmpF (s : Idn.Sch) (A : List Idn.Att) (k : Int) (n v : Bs) (ps : List Bs) : Bool :=
 (tyLook (sound s) n).2 && (rGet A n).any fun x => satF s (tyLook (sound s) n).1.syn k n v ps x
mutual
def fMat (s : Idn.Sch) (A : List Idn.Att) : Flt → Bool
 | .mk k n v ps ks => if k = 1 then fAll s A ks else if k = 2 then fAny s A ks else if k = 3 then !fAll s A ks else cmpF s A k n v ps
def fAll (s : Idn.Sch) (A : List Idn.Att) : List Flt → Bool
 | [] => true
 | f :: l => fMat s A f && fAll s A l
def fAny (s : Idn.Sch) (A : List Idn.Att) : List Flt → Bool
 | [] => false
 | f :: l => fMat s A f || fAny s A l
end
def fMatch (s : Idn.Sch) (A : List Idn.Att) (f : Flt) : Bool := decide (fCheck f = 0) && fMat s A f
mutual
def fNamed : Flt → List Bs
 | .mk k n _ _ ks => (if isCmp k then [Idn.lower n] else []) ++ fNameds ks
def fNameds : List Flt → List Bs
 | [] => []
 | f :: l => fNamed f ++ fNameds l
end
def fNames (f : Flt) : List Bs := if fCheck f != 0 then [] else Idn.insAll (fNamed f)
def notF (f : Flt) : Flt := .mk 3 [] [] [] [f]
mutual
def fMov : Bool → Flt → Flt
 | b, .mk k n v ps ks => if k = 3 then fMov1 (!b) ks else if isCmp k then (if b then notF (.mk k n v ps ks) else .mk k n v ps ks) else .mk (if b then 3 - k else k) [] [] [] (fMovs b ks)
def fMov1 : Bool → List Flt → Flt
 | _, [] => .mk 0 [] [] [] []
 | b, f :: _ => fMov b f
def fMovs : Bool → List Flt → List Flt
 | _, [] => []
 | b, f :: l => fMov b f :: fMovs b l
end
def fSimp (f : Flt) : Flt := if fCheck f != 0 then f else if fCheck (fMov false f) != 0 then f else fMov false f
end Go.Proofs.YtmamnmjfbadiiaaGreatDoor
/- Plain laws of filters: induction, lists of kids, negations moved inward. -/
namespace Go.Proofs.YtmamnmjfbadiiaaGreatDoor
open Go.RowKit Go.Sort
open Idn (L B Bs)
theorem fSize_mem {f : Flt} : ∀ {l : List Flt}, f ∈ l → fSize f ≤ fSizes l
  | g :: l, h => by
    rw [fSizes]
    rcases List.mem_cons.1 h with rfl | h
    · omega
    · have := fSize_mem h; omega
theorem Flt.ind {p : Flt → Prop} (h : ∀ k n v ps ks, (∀ f ∈ ks, p f) → p (.mk k n v ps ks)) : ∀ f, p f := by
  have key : ∀ (m : Nat) (f : Flt), fSize f ≤ m → p f := by
    intro m
    induction m with
    | zero => intro f hf; cases f; rw [fSize] at hf; omega
    | succ m ih =>
      intro f hf
      cases f with
      | mk k n v ps ks =>
        refine h k n v ps ks fun g hg => ih g ?_
        have := fSize_mem hg
        rw [fSize] at hf; omega
  exact fun f => key _ f (Nat.le_refl _)
theorem fSizes_sum : ∀ l : List Flt, fSizes l = (l.map fSize).sum
 | [] => rfl
 | f :: l => by rw [fSizes, fSizes_sum l]; simp
theorem fSizes_append (a b : List Flt) : fSizes (a ++ b) = fSizes a + fSizes b := by simp [fSizes_sum]
theorem fSize_pos (f : Flt) : 0 < fSize f := by cases f; rw [fSize]; omega
theorem fDep_pos (f : Flt) : 0 < fDep f := by cases f; rw [fDep]; omega
theorem fDeps_le {l : List Flt} {n : Nat} : fDeps l ≤ n ↔ ∀ f ∈ l, fDep f ≤ n := by
 induction l with
 | nil => simp [fDeps]
 | cons g l ih => rw [fDeps, List.forall_mem_cons, ← ih]; omega
theorem fAll_eq (s : Idn.Sch) (A : List Idn.Att) : ∀ l : List Flt, fAll s A l = l.all (fMat s A)
 | [] => rfl
 | f :: l => by rw [fAll, fAll_eq s A l]; simp
theorem fAny_eq (s : Idn.Sch) (A : List Idn.Att) : ∀ l : List Flt, fAny s A l = l.any (fMat s A)
 | [] => rfl
 | f :: l => by rw [fAny, fAny_eq s A l]; simp
theorem fMovs_eq (b : Bool) : ∀ l : List Flt, fMovs b l = l.map (fMov b)
 | [] => rfl
 | f :: l => by rw [fMovs, fMovs_eq b l]; simp
theorem fTxts_eq : ∀ l : List Flt, fTxts l = l.flatMap fTxt
 | [] => rfl
 | f :: l => by rw [fTxts, fTxts_eq l]; simp
theorem fNameds_eq : ∀ l : List Flt, fNameds l = l.flatMap fNamed
 | [] => rfl
 | f :: l => by rw [fNameds, fNameds_eq l]; simp
theorem nodeErrs_zero {l : List Flt} : nodeErrs l = 0 ↔ ∀ f ∈ l, nodeErr f = 0 := by
  induction l with
  | nil => simp [nodeErrs]
  | cons g l ih =>
    rw [nodeErrs, List.forall_mem_cons, ← ih]
    by_cases h : nodeErr g = 0 <;> simp [h]
theorem nodeErr_zero {k : Int} {n v : Bs} {ps : List Bs} {ks : List Flt} : nodeErr (.mk k n v ps ks) = 0 ↔ ownErr k n v ps ks.length = 0 ∧ ∀ f ∈ ks, nodeErr f = 0 := by
 rw [nodeErr, ← nodeErrs_zero]
 by_cases h : ownErr k n v ps ks.length = 0 <;> simp [h]
theorem ownErr_form {k : Int} {n v : Bs} {ps : List Bs} {m : Nat} (h : ownErr k n v ps m = 0) : formF k n v ps m = true := by
 unfold ownErr at h
 by_cases hf : formF k n v ps m = true
 ·exact hf
 ·simp [hf] at h
theorem form_kind {k : Int} {n v : Bs} {ps : List Bs} {m : Nat} (h : formF k n v ps m = true) : 1 ≤ k ∧ k ≤ 8 := by
 unfold formF at h
 split at h
 ·omega
 ·split at h
  ·omega
  ·split at h
   ·omega
   ·split at h
    ·omega
    ·split at h
     ·omega
     ·cases h
theorem form_set {k : Int} {n v : Bs} {ps : List Bs} {m : Nat} (h : formF k n v ps m = true) (hk : k = 1 ∨ k = 2) : n = [] ∧ v = [] ∧ ps = [] := by
 unfold formF at h
 rw [if_pos hk] at h
 simpa using h
theorem form_not {n v : Bs} {ps : List Bs} {m : Nat} (h : formF 3 n v ps m = true) : n = [] ∧ v = [] ∧ ps = [] ∧ m = 1 := by
 unfold formF at h
 rw [if_neg (by omega), if_pos rfl] at h
 simpa using h
theorem form_leaf {k : Int} {n v : Bs} {ps : List Bs} {m : Nat} (h : formF k n v ps m = true) (hk : isCmp k = true) : m = 0 := by
 unfold isCmp at hk
 simp only [Bool.and_eq_true, decide_eq_true_eq] at hk
 unfold formF at h
 rw [if_neg (by omega), if_neg (by omega)] at h
 split at h
 ·simp at h; exact h.2
 ·split at h
  ·simp at h; exact h.2.2
  ·rw [if_pos (by omega)] at h
   simp at h; exact h.2.1
theorem set_own {k : Int} (m : Nat) (hk : k = 1 ∨ k = 2) : ownErr k [] [] [] m = 0 := by
 have hc : isCmp k = false := by unfold isCmp; simp; omega
 unfold ownErr formF
 rw [if_pos hk, hc]; rfl
theorem cmp_kind {k : Int} (h : isCmp k = true) : k ≠ 1 ∧ k ≠ 2 ∧ k ≠ 3 ∧ 4 ≤ k ∧ k ≤ 8 := by
 unfold isCmp at h
 simp only [Bool.and_eq_true, decide_eq_true_eq] at h
 omega
theorem kind_cases {k : Int} (h1 : 1 ≤ k) (h2 : k ≤ 8) : k = 3 ∨ isCmp k = true ∨ ((k = 1 ∨ k = 2) ∧ isCmp k = false) := by
 unfold isCmp
 simp only [Bool.and_eq_true, decide_eq_true_eq, Bool.and_eq_false_iff, decide_eq_false_iff_not]
 omega
theorem fMov_not (b : Bool) (n v : Bs) (ps : List Bs) (g : Flt) : fMov b (.mk 3 n v ps [g]) = fMov (!b) g := by rw [fMov, if_pos rfl, fMov1]
theorem fMov_cmp {k : Int} (h : isCmp k = true) (b : Bool) (n v : Bs) (ps : List Bs) (ks : List Flt) : fMov b (.mk k n v ps ks) = if b then notF (.mk k n v ps ks) else .mk k n v ps ks := by
 rw [fMov, if_neg (cmp_kind h).2.2.1, if_pos h]
theorem fMov_set {k : Int} (h : k = 1 ∨ k = 2) (b : Bool) (n v : Bs) (ps : List Bs) (ks : List Flt) : fMov b (.mk k n v ps ks) = .mk (if b then 3 - k else k) [] [] [] (ks.map (fMov b)) := by
 have hc : ¬ isCmp k = true := by unfold isCmp; simp; omega
 rw [fMov, if_neg (by omega), if_neg hc, fMovs_eq]
theorem fMat_not (s : Idn.Sch) (A : List Idn.Att) (n v : Bs) (ps : List Bs) (g : Flt) : fMat s A (.mk 3 n v ps [g]) = !fMat s A g := by
 rw [fMat, if_neg (by omega), if_neg (by omega), if_pos rfl, fAll, fAll]; simp
theorem fMat_and (s : Idn.Sch) (A : List Idn.Att) (n v : Bs) (ps : List Bs) (ks : List Flt) : fMat s A (.mk 1 n v ps ks) = ks.all (fMat s A) := by rw [fMat, if_pos rfl, fAll_eq]
theorem fMat_or (s : Idn.Sch) (A : List Idn.Att) (n v : Bs) (ps : List Bs) (ks : List Flt) : fMat s A (.mk 2 n v ps ks) = ks.any (fMat s A) := by rw [fMat, if_neg (by omega), if_pos rfl, fAny_eq]
theorem one_kid {l : List Flt} (h : l.length = 1) : ∃ g, l = [g] := by
 match l, h with
 | [g], _ => exact ⟨g, rfl⟩
theorem fMov_mat (s : Idn.Sch) (A : List Idn.Att) : ∀ f : Flt, nodeErr f = 0 → ∀ b, fMat s A (fMov b f) = (b ^^ fMat s A f) := by
  intro f
  induction f using Flt.ind with
  | h k n v ps ks ih =>
    intro he b
    obtain ⟨h1, h2⟩ := nodeErr_zero.1 he
    have hf := ownErr_form h1
    obtain ⟨k1, k8⟩ := form_kind hf
    rcases kind_cases k1 k8 with rfl | hc | ⟨hk, hc⟩
    · obtain ⟨_, _, _, h4⟩ := form_not hf
      obtain ⟨g, rfl⟩ := one_kid h4
      rw [fMov_not, ih g (by simp) (h2 g (by simp)), fMat_not]
      cases b <;> cases fMat s A g <;> rfl
    · rw [fMov_cmp hc]
      cases b
      · simp
      · rw [if_pos rfl]; unfold notF; rw [fMat_not]; cases fMat s A (.mk k n v ps ks) <;> rfl
    · rw [fMov_set hk]
      have e : ∀ f ∈ ks, fMat s A (fMov b f) = (b ^^ fMat s A f) := fun f hf => ih f hf (h2 f hf) b
      rcases hk with rfl | rfl
      · cases b
        · rw [if_neg (by simp), fMat_and, fMat_and, List.all_map]
          have : ∀ f ∈ ks, (fMat s A ∘ fMov false) f = fMat s A f := fun f hf => by rw [Function.comp, e f hf]; simp
          rw [Bool.eq_iff_iff]
          simp only [List.all_eq_true, Bool.false_xor]
          exact ⟨fun h f hf => (this f hf) ▸ h f hf, fun h f hf => (this f hf).symm ▸ h f hf⟩
        · rw [if_pos rfl, show (3 - 1 : Int) = 2 by decide, fMat_or, fMat_and, List.any_map]
          have : ∀ f ∈ ks, (fMat s A ∘ fMov true) f = !fMat s A f := fun f hf => by rw [Function.comp, e f hf]; simp
          rw [Bool.eq_iff_iff]
          simp only [Bool.true_xor, Bool.not_eq_true', List.all_eq_false, List.any_eq_true]
          exact ⟨fun ⟨f, hf, h⟩ => ⟨f, hf, by rw [this f hf] at h; simpa using h⟩, fun ⟨f, hf, h⟩ => ⟨f, hf, by rw [this f hf]; simpa using h⟩⟩
      · cases b
        · rw [if_neg (by simp), fMat_or, fMat_or, List.any_map]
          have : ∀ f ∈ ks, (fMat s A ∘ fMov false) f = fMat s A f := fun f hf => by rw [Function.comp, e f hf]; simp
          rw [Bool.eq_iff_iff]
          simp only [List.any_eq_true, Bool.false_xor]
          exact ⟨fun ⟨f, hf, h⟩ => ⟨f, hf, (this f hf) ▸ h⟩, fun ⟨f, hf, h⟩ => ⟨f, hf, (this f hf).symm ▸ h⟩⟩
        · rw [if_pos rfl, show (3 - 2 : Int) = 1 by decide, fMat_and, fMat_or, List.all_map]
          have : ∀ f ∈ ks, (fMat s A ∘ fMov true) f = !fMat s A f := fun f hf => by rw [Function.comp, e f hf]; simp
          rw [Bool.eq_iff_iff]
          simp only [Bool.true_xor, Bool.not_eq_true', List.any_eq_false, List.all_eq_true]
          exact ⟨fun h f hf => by have h' := h f hf; rw [this f hf] at h'; simpa using h', fun h f hf => by rw [this f hf]; simpa using h f hf⟩
theorem fMov_idem : ∀ f : Flt, nodeErr f = 0 → ∀ b, fMov false (fMov b f) = fMov b f := by
  intro f
  induction f using Flt.ind with
  | h k n v ps ks ih =>
    intro he b
    obtain ⟨h1, h2⟩ := nodeErr_zero.1 he
    have hf := ownErr_form h1
    obtain ⟨k1, k8⟩ := form_kind hf
    rcases kind_cases k1 k8 with rfl | hc | ⟨hk, hc⟩
    · obtain ⟨_, _, _, h4⟩ := form_not hf
      obtain ⟨g, rfl⟩ := one_kid h4
      rw [fMov_not, ih g (by simp) (h2 g (by simp))]
    · rw [fMov_cmp hc]
      cases b
      · rw [if_neg (by simp), fMov_cmp hc, if_neg (by simp)]
      · rw [if_pos rfl]; unfold notF; rw [fMov_not, fMov_cmp hc]; rfl
    · rw [fMov_set hk]
      have hk' : (if b = true then 3 - k else k) = 1 ∨ (if b = true then 3 - k else k) = 2 := by split <;> omega
      rw [fMov_set hk', if_neg (by simp), List.map_map]
      congr 1
      exact List.map_congr_left fun f hf => ih f hf (h2 f hf) b
theorem fCheck_zero {f : Flt} : fCheck f = 0 ↔ fSize f ≤ 64 ∧ fDep f ≤ 8 ∧ nodeErr f = 0 := by
 unfold fCheck
 by_cases h : 64 < fSize f ∨ 8 < fDep f
 ·rw [if_pos h]; constructor
  ·intro e; cases e
  ·omega
 ·rw [if_neg h]
  have : fSize f ≤ 64 ∧ fDep f ≤ 8 := by omega
  simp [this]
theorem fSimp_law (s : Idn.Sch) (A : List Idn.Att) (f : Flt) : fMatch s A (fSimp f) = fMatch s A f ∧ fSimp (fSimp f) = fSimp f := by
 by_cases h1 : fCheck f = 0
 ·by_cases h2 : fCheck (fMov false f) = 0
  ·have e : fSimp f = fMov false f := by unfold fSimp; simp [h1, h2]
   have hn := (fCheck_zero.1 h1).2.2
   constructor
   ·rw [e]; unfold fMatch; rw [h1, h2, fMov_mat s A f hn]; simp
   ·rw [e]; unfold fSimp; rw [fMov_idem f hn]; simp
  ·have e : fSimp f = f := by unfold fSimp; simp [h1, h2]
   rw [e]; exact ⟨rfl, e⟩
 ·have e : fSimp f = f := by unfold fSimp; simp [h1]
  rw [e]; exact ⟨rfl, e⟩
theorem notF_law (s : Idn.Sch) (A : List Idn.Att) {f : Flt} (h : fCheck (notF f) = 0) : fCheck f = 0 ∧ fMatch s A f = !fMatch s A (notF f) := by
 obtain ⟨h1, h2, h3⟩ := fCheck_zero.1 h
 have hf : fCheck f = 0 := by
  refine fCheck_zero.2 ⟨?_, ?_, (nodeErr_zero.1 h3).2 f (by simp)⟩
  ·unfold notF at h1; rw [fSize, fSizes, fSizes] at h1; omega
  ·unfold notF at h2; rw [fDep, fDeps, fDeps] at h2; omega
 refine ⟨hf, ?_⟩
 unfold fMatch
 rw [hf, h]
 unfold notF
 rw [fMat_not]
 simp
theorem set_check {k : Int} (hk : k = 1 ∨ k = 2) {l : List Flt} : fCheck (.mk k [] [] [] l) = 0 ↔ fSizes l ≤ 63 ∧ fDeps l ≤ 7 ∧ ∀ f ∈ l, nodeErr f = 0 := by
 rw [fCheck_zero, nodeErr_zero, fSize, fDep]
 have := set_own l.length hk
 simp only [this, true_and]
 exact ⟨fun ⟨h1, h2, h3⟩ => ⟨by omega, by omega, h3⟩, fun ⟨h1, h2, h3⟩ => ⟨by omega, by omega, h3⟩⟩
theorem set_kids {k : Int} (hk : k = 1 ∨ k = 2) {l : List Flt} (h : fCheck (.mk k [] [] [] l) = 0) : ∀ f ∈ l, fCheck f = 0 := fun f hf => by
 obtain ⟨h1, h2, h3⟩ := (set_check hk).1 h
 have := fSize_mem hf
 have := fDeps_le.1 h2 f hf
 exact fCheck_zero.2 ⟨by omega, by omega, h3 f hf⟩
theorem set_turn {k : Int} (hk : k = 1 ∨ k = 2) {a b : List Flt} (h : fCheck (.mk k [] [] [] (a ++ b)) = 0) : fCheck (.mk k [] [] [] (b ++ a)) = 0 := by
 obtain ⟨h1, h2, h3⟩ := (set_check hk).1 h
 refine (set_check hk).2 ⟨by rw [fSizes_append] at *; omega, fDeps_le.2 fun f hf => fDeps_le.1 h2 f ?_, fun f hf => h3 f ?_⟩ <;> (simp only [List.mem_append] at *; exact hf.symm)
theorem and_law (s : Idn.Sch) (A : List Idn.Att) {l : List Flt} (h : fCheck (.mk 1 [] [] [] l) = 0) : fMatch s A (.mk 1 [] [] [] l) = l.all (fMatch s A) := by
 unfold fMatch
 rw [h, fMat_and, decide_eq_true rfl, Bool.true_and, Bool.eq_iff_iff]
 simp only [List.all_eq_true]
 have hk := set_kids (.inl rfl) h
 exact ⟨fun e f hf => by rw [hk f hf, e f hf]; rfl, fun e f hf => by have h' := e f hf; rw [hk f hf] at h'; simpa using h'⟩
theorem or_law (s : Idn.Sch) (A : List Idn.Att) {l : List Flt} (h : fCheck (.mk 2 [] [] [] l) = 0) : fMatch s A (.mk 2 [] [] [] l) = l.any (fMatch s A) := by
 unfold fMatch
 rw [h, fMat_or, decide_eq_true rfl, Bool.true_and, Bool.eq_iff_iff]
 simp only [List.any_eq_true]
 have hk := set_kids (.inr rfl) h
 exact ⟨fun ⟨f, hf, e⟩ => ⟨f, hf, by rw [hk f hf, e]; rfl⟩, fun ⟨f, hf, e⟩ => ⟨f, hf, by rw [hk f hf] at e; simpa using e⟩⟩
end Go.Proofs.YtmamnmjfbadiiaaGreatDoor
/- Filters in memory: a value of api.Filter that reads as a filter; d bounds the depth of its kids. -/
namespace Go.Proofs.YtmamnmjfbadiiaaGreatDoor
open Go.RowKit Go.Sort
open Idn (L B Bs drop_L take_L size_L)
def FltC (w : World) (hi : Nat) : Nat → Flt → List Value → Prop
 | 0, _, _ => False
 | d + 1, f, cs => ∃ pv kv, cs = [.int .i64 f.kind, sv f.name, sv f.value, pv, kv] ∧ StrsV w hi pv f.parts ∧ SlV (FltC w hi d) w hi 5 kv f.kids
abbrev FltsV (w : World) (hi d : Nat) (v : Value) (l : List Flt) : Prop := SlV (FltC w hi d) w hi 5 v l
def FltV (w : World) (hi d : Nat) (v : Value) (f : Flt) : Prop :=
 ∃ pv kv, v = .agg #[.int .i64 f.kind, .string (B f.name), .string (B f.value), pv, kv] ∧ StrsV w hi pv f.parts ∧ FltsV w hi d kv f.kids
theorem FltC.keep {w w' : World} {hi : Nat} (hb : Below hi w w') : ∀ {d : Nat} {f : Flt} {cs : List Value}, FltC w hi d f cs → FltC w' hi d f cs
  | 0, _, _, h => h
  | d + 1, _, _, h => by
    obtain ⟨pv, kv, h1, h2, h3⟩ := h
    exact ⟨pv, kv, h1, SlV.keep h2 hb, SlV.keepE h3 hb fun _ _ _ he => FltC.keep hb he⟩
theorem FltC.mono {w : World} {hi hi' : Nat} (hh : hi ≤ hi') : ∀ {d : Nat} {f : Flt} {cs : List Value}, FltC w hi d f cs → FltC w hi' d f cs
  | 0, _, _, h => h
  | d + 1, _, _, h => by
    obtain ⟨pv, kv, h1, h2, h3⟩ := h
    exact ⟨pv, kv, h1, SlV.mono h2 hh, SlV.mono (SlV.keepE h3 (Below.refl _ _) fun _ _ _ he => FltC.mono hh he) hh⟩
theorem FltC.deep {w : World} {hi : Nat} : ∀ {d d' : Nat} {f : Flt} {cs : List Value}, d ≤ d' → FltC w hi d f cs → FltC w hi d' f cs
  | 0, _, _, _, _, h => h.elim
  | d + 1, 0, _, _, hd, _ => by omega
  | d + 1, d' + 1, _, _, hd, h => by
    obtain ⟨pv, kv, h1, h2, h3⟩ := h
    exact ⟨pv, kv, h1, h2, SlV.keepE h3 (Below.refl _ _) fun _ _ _ he => FltC.deep (by omega) he⟩
theorem FltsV.keep {w w' : World} {hi d : Nat} {v : Value} {l : List Flt} (h : FltsV w hi d v l) (hb : Below hi w w') : FltsV w' hi d v l := SlV.keepE h hb fun _ _ _ he => FltC.keep hb he
theorem FltsV.mono {w : World} {hi hi' d : Nat} {v : Value} {l : List Flt} (h : FltsV w hi d v l) (hh : hi ≤ hi') : FltsV w hi' d v l :=
 SlV.mono (SlV.keepE h (Below.refl _ _) fun _ _ _ he => FltC.mono hh he) hh
theorem FltV.keep {w w' : World} {hi d : Nat} {v : Value} {f : Flt} (h : FltV w hi d v f) (hb : Below hi w w') : FltV w' hi d v f := by
 obtain ⟨pv, kv, h1, h2, h3⟩ := h
 exact ⟨pv, kv, h1, SlV.keep h2 hb, FltsV.keep h3 hb⟩
theorem FltV.mono {w : World} {hi hi' d : Nat} {v : Value} {f : Flt} (h : FltV w hi d v f) (hh : hi ≤ hi') : FltV w hi' d v f := by
 obtain ⟨pv, kv, h1, h2, h3⟩ := h
 exact ⟨pv, kv, h1, SlV.mono h2 hh, FltsV.mono h3 hh⟩
theorem FltV.on {w w' : World} {d : Nat} {v : Value} {f : Flt} (h : FltV w w.heap.size d v f) (hb : Below w.heap.size w w') : FltV w' w'.heap.size d v f := FltV.mono (FltV.keep h hb) hb.size
theorem FltsV.on {w w' : World} {d : Nat} {v : Value} {l : List Flt} (h : FltsV w w.heap.size d v l) (hb : Below w.heap.size w w') : FltsV w' w'.heap.size d v l := FltsV.mono (FltsV.keep h hb) hb.size
theorem FltsV.cell {w : World} {hi d : Nat} {A : Option Addr} {n c : Nat} {l : List Flt} (h : FltsV w hi d (.slice A n c) l) {k : Nat} (hk : k < l.length) :
    ∃ b off pv kv, A = some ⟨b, off, none⟩ ∧ b < hi ∧ w.cell? ⟨b, off + k * 5, none⟩ = some (.int .i64 l[k].kind) ∧ w.cell? ⟨b, off + k * 5 + 1, none⟩ = some (.string (B l[k].name)) ∧ w.cell? ⟨b, off + k * 5 + 2, none⟩ = some (.string (B l[k].value)) ∧
      w.cell? ⟨b, off + k * 5 + 3, none⟩ = some pv ∧ w.cell? ⟨b, off + k * 5 + 4, none⟩ = some kv ∧ 0 < d ∧ StrsV w hi pv l[k].parts ∧ FltsV w hi (d - 1) kv l[k].kids := by
  obtain ⟨b, off, hA, hb, cs, h1, h2, h3⟩ := h.at_ hk
  cases d with
  | zero => exact h2.elim
  | succ d =>
    obtain ⟨pv, kv, rfl, hp, hq⟩ := h2
    exact ⟨b, off, pv, kv, hA, hb, by simpa using h3 0 _ rfl, by simpa [sv, Nat.add_assoc] using h3 1 _ rfl, by simpa [sv, Nat.add_assoc] using h3 2 _ rfl, by simpa [Nat.add_assoc] using h3 3 _ rfl, by simpa [Nat.add_assoc] using h3 4 _ rfl, by omega, hp, by simpa using hq⟩
end Go.Proofs.YtmamnmjfbadiiaaGreatDoor
/- One block that a reader turns: what reads with the block emptied reads whatever the block holds. -/
namespace Go.Proofs.YtmamnmjfbadiiaaGreatDoor
open Go.RowKit Go.Sort
open Idn (L B Bs drop_L take_L size_L)
section
variable {w w' : World} {b : Nat}
end
end Go.Proofs.YtmamnmjfbadiiaaGreatDoor
/- Plain: the filters whose text forms are read back; what a filter that Check accepts is. -/
namespace Go.Proofs.YtmamnmjfbadiiaaGreatDoor
open Go.RowKit Go.Sort
open Idn (L B Bs)
def nStop (c : UInt8) : Bool := [40, 41, 42, 92, 61, 60, 62].contains c
def vStop (c : UInt8) : Bool := [40, 41, 42, 92].contains c
def rdName (n : Bs) : Bool := n.all (fun c => !nStop c) && !([38, 124, 33].contains (n.headD 0))
mutual
def rdOk : Flt → Prop
 | .mk k n v ps ks => ((k = 1 ∨ k = 2 ∨ (k = 3 ∧ ks.length = 1)) ∧ n = [] ∧ v = [] ∧ ps = [] ∧ rdOks ks) ∨ (rdName n = true ∧ ks = [] ∧ (((k = 4 ∨ k = 5 ∨ k = 6) ∧ ps = []) ∨ (k = 7 ∧ v = [] ∧ ps = []) ∨ (k = 8 ∧ v = [] ∧ 2 ≤ ps.length ∧ ps ≠ [[], []])))
def rdOks : List Flt → Prop
 | [] => True
 | f :: l => rdOk f ∧ rdOks l
end
theorem rdOks_all {l : List Flt} : rdOks l ↔ ∀ f ∈ l, rdOk f := by
 induction l with
 | nil => simp [rdOks]
 | cons f l ih => rw [rdOks, List.forall_mem_cons, ih]
theorem nameC_plain : ((List.range 256).all fun n => !Idn.nameC (UInt8.ofNat n) || (!nStop (UInt8.ofNat n) && ![38, 124, 33].contains (UInt8.ofNat n))) = true := by decide +kernel
theorem nameC_stop {c : UInt8} (h : Idn.nameC c = true) : nStop c = false ∧ [38, 124, 33].contains c = false := by
 have h1 := List.all_eq_true.1 nameC_plain c.toNat (List.mem_range.2 c.toNat_lt)
 rw [UInt8.ofNat_toNat, h] at h1
 simpa using h1
theorem name_rd {n : Bs} (h : Idn.name n = true) : rdName n = true := by
 unfold Idn.name Idn.made at h
 simp only [Bool.and_eq_true, List.all_eq_true, Bool.not_eq_true'] at h
 obtain ⟨⟨h1, h2, _⟩, _⟩ := h
 unfold rdName
 rw [Bool.and_eq_true, List.all_eq_true, Bool.not_eq_true']
 refine ⟨fun c hc => by rw [(nameC_stop (h1 c hc)).1]; rfl, ?_⟩
 cases n with
 | nil => cases h2
 | cons c n => exact (nameC_stop (h1 c List.mem_cons_self)).2
theorem rd_of_ok : ∀ f : Flt, nodeErr f = 0 → rdOk f := by
  intro f
  induction f using Flt.ind with
  | h k n v ps ks ih =>
    intro he
    obtain ⟨h1, h2⟩ := nodeErr_zero.1 he
    have hf := ownErr_form h1
    obtain ⟨k1, k8⟩ := form_kind hf
    have hks : rdOks ks := rdOks_all.2 fun f hf => ih f hf (h2 f hf)
    rw [rdOk]
    rcases kind_cases k1 k8 with rfl | hc | ⟨hk, hc⟩
    · obtain ⟨e1, e2, e3, e4⟩ := form_not hf
      exact .inl ⟨.inr (.inr ⟨rfl, e4⟩), e1, e2, e3, hks⟩
    · have hm := form_leaf hf hc
      have hn : Idn.name n = true := by
        unfold ownErr at h1
        rw [hf, hc] at h1
        by_cases hx : Idn.name n = true
        · exact hx
        · simp [hx] at h1
      refine .inr ⟨name_rd hn, List.eq_nil_of_length_eq_zero hm, ?_⟩
      have := cmp_kind hc
      unfold formF at hf
      rw [if_neg (by omega), if_neg (by omega)] at hf
      split at hf
      · rename_i hk
        simp at hf
        exact .inl ⟨hk, hf.1⟩
      · split at hf
        · rename_i hk
          simp at hf
          exact .inr (.inl ⟨hk, hf.1, hf.2.1⟩)
        · rw [if_pos (by omega)] at hf
          simp only [Bool.and_eq_true, List.isEmpty_iff, decide_eq_true_eq] at hf
          obtain ⟨hv, _, hp⟩ := hf
          unfold partsF at hp
          simp only [Bool.and_eq_true, decide_eq_true_eq] at hp
          refine .inr (.inr ⟨by omega, hv, hp.1, ?_⟩)
          rintro rfl
          simp at hp
    · obtain ⟨e1, e2, e3⟩ := form_set hf hk
      exact .inl ⟨hk.elim .inl fun h => .inr (.inl h), e1, e2, e3, hks⟩
mutual
def fOk : Flt → Prop
 | .mk _ n v ps ks => (n.length ≤ 100000 ∧ v.length ≤ 100000 ∧ ps.length ≤ 1000 ∧ ∀ x ∈ ps, x.length ≤ 100000) ∧ fOks ks
def fOks : List Flt → Prop
 | [] => True
 | f :: l => fOk f ∧ fOks l
end
theorem fOks_all {l : List Flt} : fOks l ↔ ∀ f ∈ l, fOk f := by
 induction l with
 | nil => simp [fOks]
 | cons f l ih => rw [fOks, List.forall_mem_cons, ih]
theorem fOk_own {f : Flt} (h : fOk f) : f.name.length ≤ 100000 ∧ f.value.length ≤ 100000 ∧ f.parts.length ≤ 1000 ∧ ∀ x ∈ f.parts, x.length ≤ 100000 := by
 cases f; rw [fOk] at h; exact h.1
theorem fOk_kids {f : Flt} (h : fOk f) : ∀ g ∈ f.kids, fOk g := by
 cases f; rw [fOk] at h; exact fOks_all.1 h.2
def FSm (n : Nat) (f : Flt) : Prop := fSize f ≤ n ∧ fOk f
def FSms (n : Nat) (l : List Flt) : Prop := fSizes l ≤ n ∧ ∀ f ∈ l, fOk f
theorem FSm.kids {n : Nat} {f : Flt} (h : FSm n f) : FSms n f.kids := ⟨by have := h.1; cases f; rw [fSize] at this; show fSizes _ ≤ _; simp only [Flt.kids]; omega, fOk_kids h.2⟩
theorem FSms.mem {n : Nat} {l : List Flt} (h : FSms n l) {f : Flt} (hf : f ∈ l) : FSm n f := ⟨Nat.le_trans (fSize_mem hf) h.1, h.2 f hf⟩
theorem fSizes_len : ∀ l : List Flt, l.length ≤ fSizes l
 | [] => Nat.le_refl _
 | f :: l => by have h1 := fSizes_len l; have h2 := fSize_pos f; rw [fSizes, List.length_cons]; omega
theorem FSms.len {n : Nat} {l : List Flt} (h : FSms n l) : l.length ≤ n := Nat.le_trans (fSizes_len l) h.1
theorem fDep_size : ∀ f : Flt, fDep f ≤ fSize f := by
  intro f
  induction f using Flt.ind with
  | h k n v ps ks ih =>
    rw [fDep, fSize]
    have : fDeps ks ≤ fSizes ks := fDeps_le.2 fun f hf => Nat.le_trans (ih f hf) (fSize_mem hf)
    omega
end Go.Proofs.YtmamnmjfbadiiaaGreatDoor
/- entry: missing. -/
namespace Go.Proofs.YtmamnmjfbadiiaaGreatDoor
open Go.RowKit Go.Sort
open Idn (L B Bs drop_L take_L size_L)
end Go.Proofs.YtmamnmjfbadiiaaGreatDoor
/- attrs: Sorted, at attributes that may have no values. -/
namespace Go.Proofs.YtmamnmjfbadiiaaGreatDoor
open Go.RowKit Go.Sort
open Idn (L B Bs drop_L take_L size_L)
theorem sorted2_pred (g : Nat) (w : World) : PredG g 148 #[] (fun x => ((x.2 : Nat) : Int) == 0) w := fun W x A c _ => sorted2_any x.1 A x.2 c W
theorem full_map (ps : List (Idn.Att × Value)) : (ps.filter fun q => !((((nmA q).2 : Nat) : Int) == 0)).map (·.1) = (ps.map (·.1)).filter Idn.full := by
 rw [List.filter_map]
 congr 1
 refine List.filter_congr fun q _ => ?_
 show (!((q.1.vals.length : Int) == 0)) = decide (q.1.vals.length ≠ 0)
 by_cases h : q.1.vals.length = 0
 ·rw [h]; rfl
 ·rw [decide_eq_true h]
  have : ((q.1.vals.length : Int) == 0) = false := by rw [beq_eq_false_iff_ne]; omega
  rw [this]; rfl
theorem sortedG_any (v : Value) (l : List Idn.Att) (w : World) (hv : AttsV w w.heap.size v l) (hs : Idn.ASm7 l) :
    Calls Tryz.prog 112 #[v] w fun e w' => ∃ v' ps, e = .returned v' ∧ AttOwn w' w.heap.size v' ps ∧ ps.map (·.1) = Idn.rSorted l ∧ Below w.heap.size w w' := by
  obtain ⟨A, c, rfl, hc⟩ := SlV.shape hv
  have hl1 := hs.1
  go_enter Tryz.func112, Tryz.ntmps112
  go_upto_block 0 with fail
  go_cut [3] (fun u wx => ∃ ps, AttOwn wx w.heap.size u ps ∧ Below w.heap.size w wx ∧ Hid (ps.map (·.1) = Idn.grp [] l) ∧ ps.length ≤ 1000 ∧ ∀ p ∈ ps, p.1.vals.length ≤ 1000000000)
  case first =>
    go_wp2_with fail
    go_loopw [3, 11] (fun u i wr => ∃ (k : Nat) (ps : List (Idn.Att × Value)), k ≤ l.length ∧ i = .int .i64 k ∧ AttOwn wr w.heap.size u ps ∧ Below w.heap.size w wr ∧ Hid (Idn.grp (ps.map (·.1)) (l.drop k) = Idn.grp [] l) ∧ ps.length ≤ k ∧ ∀ p ∈ ps, p.1.vals.length ≤ k * 1100000) (fun _ i _ => l.length - (intOf i).toNat)
    case atStart => exact ⟨0, [], Nat.zero_le _, rfl, AttOwn.nil _ _, Below.refl _ _, rfl, Nat.le_refl _, by simp⟩
    case round =>
      obtain ⟨k, ps, hk, rfl, hown, hb, hinv, hpl, hpv⟩ := hrel
      by_cases hlt : k < l.length
      · obtain ⟨b, off, va, rfl, hbl, c0, c1, hva⟩ := AttsV.cell hv hlt
        obtain ⟨Av, cv, rfl, hcv⟩ := SlV.shape hva
        replace c0 := (hb.cell (p := ⟨b, off + k * 2, none⟩) hbl).trans c0
        replace c1 := (hb.cell (p := ⟨b, off + k * 2 + 1, none⟩) hbl).trans c1
        have hltI : (k : Int) < (l.length : Int) := by omega
        obtain ⟨hn9, hv9, _⟩ := hs.2 l[k] (List.getElem_mem hlt)
        have hL := fun W => lower_any (B l[k].name) W (by rw [Idn.size_B]; omega)
        rw [Idn.L_B] at hL
        have hstep := Idn.grp_step l k hlt (ps.map (·.1))
        generalize Idn.lower l[k].name = nm at *
        obtain ⟨wo, hwo⟩ : ∃ wo : World, wo = wr := ⟨_, rfl⟩
        subst hwo
        go_wp2_with fail
        with_reducible refine gen1 (R := fun W => Calls Tryz.prog 47 _ W _) ?_
        intro W hbW hszW hc1 _
        have d0 : W.cell? ⟨wo.heap.size, 0, none⟩ = some (.string (B l[k].name)) := hc1 0 _ rfl
        have d1 : W.cell? ⟨wo.heap.size, 1, none⟩ = some (.slice Av l[k].vals.length cv) := hc1 1 _ rfl
        clear hc1 hszW c0 c1
        refine (hL W).mono ?_
        rintro e w1 ⟨rfl, hb1⟩
        clear hL
        have hbo1 := hbW.trans (hb1.mono hbW.size)
        replace d1 := cell_later hb1 d1
        have hown1 := hown.keep hbo1
        have hlo := fun g => own_lt hown.1 (g := g)
        clear hown d0
        obtain ⟨Au, cu, hu⟩ := own_shape hown1.1
        rw [hu] at hlo
        subst hu
        go_wp2_with fail
        with_reducible refine gen1 (R := fun W => Calls Tryz.prog 145 _ W _) ?_
        intro W2 hbW2 hszW2 hc2 _
        have q0 : W2.cell? ⟨w1.heap.size, 0, none⟩ = some (.string (B nm)) := hc2 0 _ rfl
        clear hc2
        have hI := idxA_any 146 #[.pointer (some ⟨w1.heap.size, 0, none⟩)] fn_sorted1 _ _ _ W2 (hown1.keep hbW2).names (by rw [List.length_map]; omega) (sorted1_any.pred w1.heap.size (B nm) _ W2 q0)
        rw [Idn.L_B] at hI
        have hix : idxP (fun x : Bs × Nat => decide (x.1 = nm)) (ps.map fun p => (p.1.name, p.1.vals.length)) = idxP (fun a : Idn.Att => decide (a.name = nm)) (ps.map (·.1)) := by unfold idxP; rw [ixAdd]
        rw [hix] at hI
        clear hix
        refine hI.mono ?_
        rintro e w2 ⟨rfl, hb2⟩
        have hb12 := hbW2.trans (hb2.mono hbW2.size)
        have hown2 := hown1.keep hb12
        have q2 := cell_later hb2 q0
        have d2 := cell_later hb12 d1
        have hbo2 := hbo1.trans (hb12.mono hbo1.size)
        have hbw2 := hb.trans (hbo2.mono hb.size)
        clear hI hown1 d1 q0 hszW2
        go_upto_if 22 with fail
        go_cut [3, 7] (fun u i wx => ∃ (qs : List (Idn.Att × Value)) (j : Nat) (p : Idn.Att × Value), i = .int .i64 j ∧ AttOwn wx w.heap.size u qs ∧ qs[j]? = some p ∧ Hid ((qs.map (·.1)).set j ⟨p.1.name, p.1.vals ++ l[k].vals⟩ = Idn.addA (ps.map (·.1)) nm l[k].vals) ∧ qs.length ≤ k + 1 ∧ (∀ p ∈ qs, p.1.vals.length ≤ k * 1100000) ∧ Below w.heap.size w wx ∧ wx.cell? ⟨wo.heap.size, 1, none⟩ = some (.slice Av l[k].vals.length cv))
        case first =>
          cases hx : (ps.map (·.1)).findIdx? (fun a => decide (a.name = nm)) with
          | none =>
            have hAd := Idn.addA_none l[k].vals hx
            rw [idxP_none hx]
            clear hx
            go_wp2_with (at_builtin; refine wpList_push w2 rfl _ _ 42 rfl w.heap.size 56 (.agg #[.string ⟨#[]⟩, .slice none 0 0]) 2 40 Tryz.underlying42 info_attr rfl (by decide) _ ps.length _ hown2.1 rfl [.string (B nm), .slice none 0 0] rfl rfl (by intro u hu; simp at hu; rcases hu with rfl | rfl <;> rfl) (by omega) hbw2.size ?_ rfl)
            intro v' w3 hown3 hg3 hat3 hb3 _
            have hP := hown2.push (n := nm) hown3 hg3
            have d3 : w3.cell? ⟨wo.heap.size, 1, none⟩ = some (.slice Av l[k].vals.length cv) := by
              rw [World.cell?_of_block (w := w2) (hg3.block wo.heap.size (World.block_lt_of_cell? _ _ d2) (fun e => by have := hlo _ e.symm; omega))]
              exact d2
            have HS : Hid (((ps ++ [((⟨nm, []⟩ : Idn.Att), Value.slice none 0 0)]).map (·.1)).set ps.length ⟨nm, [] ++ l[k].vals⟩ = Idn.addA (ps.map (·.1)) nm l[k].vals) := by
              show _ = _
              rw [hAd, List.map_append, List.set_append_right _ _ (by simp)]
              simp
            clear hAd
            go_wp2_with fail
            go_meet
            refine ⟨_, ps.length, (⟨nm, []⟩, .slice none 0 0), rfl, hP, by simp, HS, by simp; omega, ?_, hbw2.trans hb3, d3⟩
            intro p hp
            rcases List.mem_append.1 hp with hp | hp
            · exact hpv p hp
            · simp at hp; subst hp; simp
          | some j =>
            have hjl : j < (ps.map (·.1)).length := (List.findIdx?_eq_some_iff_getElem.1 hx).1
            have hAd := Idn.addA_some l[k].vals hx hjl
            rw [idxP_some hx]
            have hj0 : ¬ ((j : Int) < 0) := by omega
            rw [List.length_map] at hjl
            have HS : Hid ((ps.map (·.1)).set j ⟨ps[j].1.name, ps[j].1.vals ++ l[k].vals⟩ = Idn.addA (ps.map (·.1)) nm l[k].vals) := by
              show _ = _
              rw [hAd]; simp
            clear hx hAd
            go_wp2_with fail
            go_meet
            exact ⟨ps, j, ps[j], rfl, hown2, List.getElem?_eq_getElem hjl, HS, by omega, hpv, hbw2, d2⟩
        case rest =>
          obtain ⟨qs, j, p, rfl, hownc, hpj, hset, hql, hqv, hbc, d3⟩ := hcut
          have hjl := (List.getElem?_eq_some_iff.1 hpj).1
          obtain ⟨g, cap, hu, _, hgl⟩ := hownc.1.form (by omega)
          subst hu
          have hjI : (j : Int) < (qs.length : Int) := by omega
          obtain ⟨Ap, cp, hup⟩ := own_shape (hownc.2.1 p (List.mem_of_getElem? hpj))
          have hcells : wc.cell? ⟨g, j * 2 + 1, none⟩ = some (.slice Ap p.1.vals.length cp) := by
            have e : ∀ j, ((⟨g, 0, none⟩ : Addr).add j) = ⟨g, j, none⟩ := fun j => by unfold Addr.add; split <;> simp_all
            have := hownc.1.cells (g := g) rfl _ _ (rowA_at qs j p hpj).2
            rw [e, hup] at this
            exact this
          have hownd : AttOwn wc.drew w.heap.size (.slice (some ⟨g, 0, none⟩) qs.length cap) qs := hownc
          have hownp : wc.drew.ownsRow w.heap.size 9 1 (.slice Ap p.1.vals.length cp) p.1.vals.length (p.1.vals.map sv) := by
            have := hownc.2.1 p (List.mem_of_getElem? hpj)
            rw [hup] at this
            exact this
          have hvd : StrsV wc.drew w.heap.size (.slice Av l[k].vals.length cv) l[k].vals := by
            have : StrsV wc w.heap.size (.slice Av l[k].vals.length cv) l[k].vals := SlV.keep hva hbc
            exact this
          have hbd : w.heap.size ≤ wc.drew.heap.size := hbc.size
          have hpk := hqv p (List.mem_of_getElem? hpj)
          have hkk : k * 1100000 ≤ 900 * 1100000 := Nat.mul_le_mul_right _ (by omega)
          clear hownc hown2 hb12 hb1 hbW hbo1 hbo2 hbw2 hb2 hbW2 q2 d2
          go_wp2_with fail
          go_region_law (refine step_appendS rfl _ _ 23 rfl w.heap.size 9 Tryz.underlying23 info_str _ _ _ hownp rfl _ l[k].vals _ hvd rfl (by omega) hbd ?_; intro v' w' hown' hg' hat'; obtain ⟨st1, st2, hnew⟩ := hownd.grow hpj hown' (by rw [hup]; exact hg') (by rw [hup]; exact hat'); rw [hup] at st1; obtain ⟨A9, c9, hv9⟩ := own_shape hown'; subst hv9)
          all_goals
            have hHF : Hid (Idn.grp ((qs.set j (⟨p.1.name, p.1.vals ++ l[k].vals⟩, .slice A9 (p.1.vals.length + l[k].vals.length) c9)).map (·.1)) (l.drop (k + 1)) = Idn.grp [] l) := by
              show _ = _
              rw [List.map_set, hset.out, ← hstep]; exact hinv.out
            have hgb : w.heap.size ≤ g := (hownd.1.lt g rfl).1
            have hbf : Below w.heap.size w (w'.setCell ⟨g, j * 2 + 1, none⟩ (.slice A9 (p.1.vals.length + l[k].vals.length) c9)) :=
              (((hbc.drew).grown hg' hbc.size (fun k' hk' => (hownp.lt k' hk').1))).setCell (p := ⟨g, j * 2 + 1, none⟩) hgb _
            go_wp2_with fail
            go_roundw
            case rel =>
              refine ⟨k + 1, _, by omega, by go_num, hnew, hbf, hHF, by rw [List.length_set]; exact hql, fun q hq => ?_⟩
              rcases List.mem_or_eq_of_mem_set hq with hq | rfl
              · exact Nat.le_trans (hqv q hq) (Nat.mul_le_mul_right _ (Nat.le_succ k))
              · show (p.1.vals ++ l[k].vals).length ≤ _; rw [List.length_append, Nat.succ_mul]; exact Nat.add_le_add hpk hv9
            case measure => simp [intOf]; omega
      · have hltI : ¬ (k : Int) < (l.length : Int) := by omega
        have HF : Hid (ps.map (·.1) = Idn.grp [] l) := by show _ = _; rw [← hinv.out, List.drop_eq_nil_of_le (by omega)]; rfl
        go_wp2_with fail
        go_meet
        refine ⟨ps, hown, hb, HF, by omega, fun p hp => ?_⟩
        have := hpv p hp
        have : k * 1100000 ≤ 900 * 1100000 := Nat.mul_le_mul_right _ (by omega)
        omega
  case rest =>
    obtain ⟨ps0, hown0, hb, hps0, hpl0, hpv0⟩ := hcut
    have hD := delA_any 148 #[] fn_sorted2 (fun x => ((x.2 : Nat) : Int) == 0) w.heap.size _ ps0 wc hown0 hb.size (by omega) (fun g _ => sorted2_pred g wc)
    have hps1 := full_map ps0
    have hne0 : ∀ p ∈ (ps0.filter fun q => !((((nmA q).2 : Nat) : Int) == 0)), p.1.vals.length ≠ 0 := fun p hp h0 => by
      have := (List.mem_filter.1 hp).2
      unfold nmA at this
      rw [h0] at this
      simp at this
    have hpl1 : (ps0.filter fun q => !((((nmA q).2 : Nat) : Int) == 0)).length ≤ 1000 := Nat.le_trans (List.length_filter_le _ _) hpl0
    have hpv1 : ∀ p ∈ (ps0.filter fun q => !((((nmA q).2 : Nat) : Int) == 0)), p.1.vals.length ≤ 1000000000 := fun p hp => hpv0 p (List.mem_filter.1 hp).1
    rw [hps0.out] at hps1
    generalize (ps0.filter fun q => !((((nmA q).2 : Nat) : Int) == 0)) = ps at *
    have hps := Lib.hid hps1
    have hne' := hne0
    have hpl := hpl1
    have hpv := hpv1
    obtain ⟨Au0, cu0, hu0⟩ := own_shape hown0.1
    subst hu0
    clear hown0 hps0 hpl0 hpv0 hps1 hne0 hpl1 hpv1
    go_wp2_with fail
    refine hD.mono ?_
    rintro e w1 ⟨v1, rfl, hown1, hb1⟩
    have hbw1 := hb.trans hb1
    obtain ⟨Au, cu, hu⟩ := own_shape hown1.1
    subst hu
    clear hD
    go_upto_block 2 with fail
    go_cut [] (fun wx => ∃ qs, AttOwn wx w.heap.size (.slice Au ps.length cu) qs ∧ Below w.heap.size w wx ∧ Hid (qs.map (·.1) = (ps.map (·.1)).map Idn.normA) ∧ qs.length = ps.length)
    case first =>
      go_wp2_with fail
      go_loopw [8, 47] (fun _ i wr => ∃ (k : Nat) (qs : List (Idn.Att × Value)), k ≤ ps.length ∧ i = .int .i64 k ∧ AttOwn wr w.heap.size (.slice Au ps.length cu) qs ∧ Below w.heap.size w wr ∧ Hid (qs.map (·.1) = ((ps.map (·.1)).take k).map Idn.normA ++ (ps.map (·.1)).drop k) ∧ qs.length = ps.length) (fun _ i _ => ps.length - (intOf i).toNat)
      case atStart => exact ⟨0, ps, Nat.zero_le _, rfl, hown1, hbw1, by show _ = _; simp, rfl⟩
      case round =>
        obtain ⟨k, qs, hk, rfl, hown, hbr, hinv, hql⟩ := hrel
        by_cases hlt : k < ps.length
        · have hltI : (k : Int) < (ps.length : Int) := by omega
          obtain ⟨q, hqk⟩ : ∃ q, qs[k]? = some q := ⟨_, List.getElem?_eq_getElem (by omega)⟩
          obtain ⟨g, cap, hu, _, hgl⟩ := hown.1.form (by omega)
          injection hu with hu1 hu2 hu3
          subst hu1 hu3
          have hqm : q ∈ qs := List.mem_of_getElem? hqk
          have hq1 : q.1 = ps[k].1 := by
            have := congrArg (·[k]?) hinv.out
            simp only [List.getElem?_map, hqk, Option.map_some] at this
            rw [List.getElem?_append_right (by simp; omega)] at this
            simp [hlt, Nat.min_eq_left (Nat.le_of_lt hlt)] at this
            exact this
          have hpm : ps[k] ∈ ps := List.getElem_mem _
          have hvn := hne' _ hpm
          have hvb := hpv _ hpm
          obtain ⟨k0, k1, kf, kb⟩ := hown.cell hqk
          have hou := hown.2.1 _ hqm
          rw [hq1] at hou
          obtain ⟨g1, cap1, hv1, hgb1, hg1⟩ := hou.form (by omega)
          rw [hv1] at hou k1
          have hSo := sort_own g1 cap1 ps[k].1.vals w.heap.size wr hou (by omega) hvb hbr.size
          have hHq : Hid (qs.set k (⟨ps[k].1.name, Lib.compact (sorted ps[k].1.vals)⟩, q.2) = qs.set k (⟨ps[k].1.name, Lib.compact (sorted ps[k].1.vals)⟩, q.2)) := rfl
          have HQK := Lib.hid hqk
          have HQ1 := Lib.hid hq1
          have HV1 := Lib.hid hv1
          have HQL := Lib.hid hql
          clear hHq hqk hq1 hv1 hql k0 hu2
          go_wp2_with fail
          refine hSo.mono ?_
          rintro e w2 ⟨rfl, hou2, hg2⟩
          have hsl : (sorted ps[k].1.vals).length = ps[k].1.vals.length := sorted_len _
          have hou2' : w2.ownsRow w.heap.size 9 1 (.slice (some ⟨g1, 0, none⟩) (sorted ps[k].1.vals).length cap1) (sorted ps[k].1.vals).length ((sorted ps[k].1.vals).map sv) := by rw [hsl]; exact hou2
          have hown2 := hown.turn (vals := sorted ps[k].1.vals) HQK.out (by rw [HV1.out, hsl]; exact hou2) (by rw [HV1.out]; exact hg2)
          have hk2 : (qs.set k (⟨q.1.name, sorted ps[k].1.vals⟩, q.2))[k]? = some (⟨q.1.name, sorted ps[k].1.vals⟩, q.2) := by simp [HQL.out, hlt]
          obtain ⟨_, k12, kf2, _⟩ := hown2.cell hk2
          rw [HV1.out] at k12
          have hb2 : Below w.heap.size w w2 := hbr.grown hg2 hbr.size (fun x hx => by injection hx with hx; omega)
          have hCo := compact_own g1 cap1 (sorted ps[k].1.vals) w.heap.size w2 hou2' (by rw [hsl]; omega) (by rw [hsl]; exact hvb)
          rw [hsl] at hCo
          have hgl2 : g < w2.heap.size := World.block_lt_of_cell? _ _ k12
          clear hSo hown hou2 hou2' hou kf k1 hsl
          go_wp2_with fail
          refine hCo.mono ?_
          rintro e w3 ⟨rfl, hou3, hg3⟩
          clear hCo
          obtain ⟨st1, st2, hown3⟩ := hown2.put (u' := .slice (some ⟨g1, 0, none⟩) (Lib.compact (sorted ps[k].1.vals)).length cap1) hk2 hou3 (by rw [HV1.out]; exact hg3) (.inl (by rw [HV1.out]; rfl))
          dsimp only at st1 hown3
          rw [HV1.out] at st1
          have hb3 : Below w.heap.size w w3 := hb2.grown hg3 hb2.size (fun x hx => by injection hx with hx; omega)
          have hgl3 : g < w3.heap.size := World.block_lt_of_cell? _ _ st1
          have HF : Hid (((qs.set k (⟨q.1.name, sorted ps[k].1.vals⟩, q.2)).set k (⟨q.1.name, Lib.compact (sorted ps[k].1.vals)⟩, .slice (some ⟨g1, 0, none⟩) (Lib.compact (sorted ps[k].1.vals)).length cap1)).map (·.1) = ((ps.map (·.1)).take (k + 1)).map Idn.normA ++ (ps.map (·.1)).drop (k + 1)) := by
            show _ = _
            rw [List.set_set, List.map_set, hinv.out, HQ1.out]
            have hl : k < (ps.map (·.1)).length := by simpa using hlt
            rw [List.set_append_right _ _ (by simp; omega), List.take_succ_eq_append_getElem hl, List.map_append, List.drop_eq_getElem_cons hl]
            simp [Nat.min_eq_left (Nat.le_of_lt hlt)]
            rfl
          clear hown2 hk2 k12 kf2 hou3
          go_wp2_with fail
          go_roundw
          case rel => exact ⟨k + 1, _, by omega, by go_num, hown3, hb3.setCell (p := ⟨g, k * 2 + 1, none⟩) kb _, HF, by rw [List.length_set, List.length_set]; exact HQL.out⟩
          case measure => simp [intOf]; omega
        · have hltI : ¬ (k : Int) < (ps.length : Int) := by omega
          have HF : Hid (qs.map (·.1) = (ps.map (·.1)).map Idn.normA) := by
            show _ = _
            rw [hinv.out, List.take_of_length_le (by simp; omega), List.drop_eq_nil_of_le (by simp; omega), List.append_nil]
          go_wp2_with fail
          go_meet
          exact ⟨qs, hown, hbr, HF, hql⟩
    case rest =>
      obtain ⟨qs, hown, hb, hq, hql⟩ := hcut
      have hnd : ((qs.map (·.1)).map (·.name)).Nodup := by
        rw [hq.out, Idn.norm_names, hps.out]
        exact (List.filter_sublist.map _).nodup (Idn.grp_nd l [] (by simp))
      have hS := sortA_any _ w.heap.size qs wc hown hb.size (by omega) hnd
      rw [hq.out, hps.out, Idn.sortedG_law] at hS
      clear hown
      go_wp2_with fail
      refine hS.mono ?_
      rintro e w4 ⟨rfl, qs', hown', hq', hb'⟩
      clear hS
      go_wp2_with fail
      go_ret
      exact ⟨_, qs', rfl, hown', hq', hb.trans hb'⟩
end Go.Proofs.YtmamnmjfbadiiaaGreatDoor
/- attrs: Names, Get, at attributes that may have no values. -/
namespace Go.Proofs.YtmamnmjfbadiiaaGreatDoor
open Go.RowKit Go.Sort
open Idn (L B Bs drop_L take_L size_L)
theorem rSorted_le (l : List Idn.Att) : (Idn.rSorted l).length ≤ l.length := by
 rw [← Idn.sortedG_law, List.length_mergeSort, List.length_map]
 have h1 := List.length_filter_le Idn.full (Idn.grp [] l)
 have h2 := grp_len l []
 simp only [List.length_nil, Nat.zero_add] at h2
 omega
theorem rGet_len {l : List Idn.Att} (hs : Idn.ASm7 l) (n : Bs) : (rGet l n).length ≤ 1000000000 := by
 unfold rGet
 split
 ·simp
 ·split
  ·simp
  ·rename_i a ha
   have hm := List.mem_of_getElem? ha
   rw [← Idn.sortedG_law] at hm
   obtain ⟨b, hb, rfl⟩ := List.mem_map.1 ((List.mergeSort_perm _ _).mem_iff.1 hm)
   have h1 := Lib.compact_length_le (Idn.srt b.vals)
   have h2 : (Idn.srt b.vals).length = b.vals.length := by simp [Idn.srt]
   have h3 := Idn.grp_le 1100000 l [] 0 (by simp) (fun a ha => (hs.2 a ha).2.1) b (List.mem_filter.1 hb).1
   have h4 := Nat.mul_le_mul_right 1100000 hs.1
   show (Lib.compact (Idn.srt b.vals)).length ≤ _
   omega
theorem getG_any (v : Value) (l : List Idn.Att) (n : ByteArray) (w : World) (hv : AttsV w w.heap.size v l) (hs : Idn.ASm7 l) (hn : n.size ≤ 1000000000) :
    Calls Tryz.prog 81 #[v, .string n] w fun e w' => ∃ A c, e = .returned (.slice A (rGet l (L n)).length (rGet l (L n)).length) ∧ w'.ownsRow w.heap.size 9 1 (.slice A (rGet l (L n)).length c) (rGet l (L n)).length ((rGet l (L n)).map sv) ∧ Below w.heap.size w w' := by
  have hS := sortedG_any v l w hv hs
  have hgl := rSorted_le l
  have hl1 := hs.1
  have hres : Hid (rGet l (L n) = match (Idn.rSorted l).findIdx? (fun a => decide (a.name = Idn.lower (L n))) with
    | none => []
    | some k => match (Idn.rSorted l)[k]? with | none => [] | some a => a.vals) := rfl
  have hbd := rGet_len hs (L n)
  generalize rGet l (L n) = res at *
  generalize Idn.rSorted l = q at *
  have hq : q.length ≤ 1000 := by omega
  obtain ⟨A0, c0, rfl, hc0⟩ := SlV.shape hv
  clear hv hs hgl
  go_enter Tryz.func81, Tryz.ntmps81
  go_wp2_with fail
  refine hS.mono ?_
  rintro e w1 ⟨v1, ps, rfl, hown, hpq, hb1⟩
  have hpl : ps.length = q.length := by rw [← hpq, List.length_map]
  have hF := find_any v1 q n w1 (hown.atts hpq) (by omega) hn
  obtain ⟨A, c, hv1⟩ := own_shape hown.1
  subst hv1
  clear hS
  have HPL := Lib.hid hpl
  have HPQ := Lib.hid hpq
  have hpl9 : ps.length ≤ 1000 := by omega
  clear hpq hpl
  cases hx : q.findIdx? (fun a => decide (a.name = Idn.lower (L n))) with
  | none =>
    have HF : Hid (res = []) := by show _ = _; rw [hres.out, hx]
    rw [idxP_none hx] at hF
    clear hx
    go_wp2_with fail
    refine hF.mono ?_
    rintro e w2 ⟨rfl, hb2⟩
    go_wp2
    go_ret
    exact ⟨none, 0, by rw [HF.out]; rfl, by rw [HF.out]; exact World.ownsRow_nil _ _ _ _, hb1.trans (hb2.mono hb1.size)⟩
  | some k =>
    have hkl : k < q.length := (List.findIdx?_eq_some_iff_getElem.1 hx).1
    have HF : Hid (res = q[k].vals) := by show _ = _; rw [hres.out, hx]; simp [hkl]
    rw [idxP_some hx] at hF
    have hkp : k < ps.length := by rw [HPL.out]; exact hkl
    have hkI : (k : Int) < (ps.length : Int) := by omega
    have hk0 : ¬ ((k : Int) < 0) := by omega
    clear hx
    obtain ⟨g, cap, hu, _, hgl⟩ := hown.1.form (by omega)
    injection hu with hu1 hu2 hu3
    subst hu1 hu3
    have hpk : ps[k]? = some ps[k] := List.getElem?_eq_getElem (by omega)
    have hp1 : ps[k].1 = q[k] := by
      have := HPQ.out
      subst this
      simp
    have HP1 := Lib.hid hp1
    have hpm : ps[k] ∈ ps := List.getElem_mem _
    clear hp1
    generalize ps[k] = p at *
    have HPK := Lib.hid hpk
    clear hpk
    obtain ⟨Av, cv, hup⟩ := own_shape (hown.2.1 p hpm)
    go_wp2_with fail
    refine hF.mono ?_
    rintro e w2 ⟨rfl, hb2⟩
    have hown2 := hown.keep hb2
    obtain ⟨c0, c1, _, _⟩ := hown2.cell HPK.out
    have ho := hown2.2.1 p hpm
    rw [hup] at c1 ho
    obtain ⟨Aw, cw, ew, hcw, hrd⟩ := StrsV.of_own ho
    injection ew with ew1 ew2 ew3
    subst ew1
    have hvc : (p.1.vals.length : Int) ≤ (cv : Int) := by omega
    have hv0 : (0 : Int) ≤ (p.1.vals.length : Int) := by omega
    have HO := Lib.hid ho
    clear hF hown hown2 ho hup hpm
    go_wp2
    go_ret
    exact ⟨Av, cv, by rw [HF.out, ← HP1.out]; rfl, by rw [HF.out, ← HP1.out]; exact own_base HO.out (Nat.le_refl _), hb1.trans (hb2.mono hb1.size)⟩
end Go.Proofs.YtmamnmjfbadiiaaGreatDoor
/- The values of the small case of identitylaw09, reckoned. -/
namespace Go.Proofs.YtmamnmjfbadiiaaGreatDoor
open Go.RowKit Go.Sort
open Idn (L B Bs)
namespace E9
def ageN : Bs := [97, 103, 101]
def mailN : Bs := [109, 97, 105, 108]
def personS : Idn.Sch := ⟨[⟨Idn.mainN, 1, false⟩, ⟨E8.cnN, 1, false⟩, ⟨ageN, 3, false⟩], []⟩
def annL : List Idn.Att := [⟨Idn.mainN, [E8.personN]⟩, ⟨E8.cnN, [[65, 110, 110, 32, 76, 101, 101]]⟩, ⟨ageN, [[51, 48]]⟩]
def eqF (n v : Bs) : Flt := .mk 4 n v [] []
def F1 : Flt := .mk 1 [] [] [] [eqF Idn.mainN E8.personN, notF (.mk 7 mailN [] [] [])]
def T1 : Bs := [40, 38, 40, 99, 108, 97, 115, 115, 61, 112, 101, 114, 115, 111, 110, 41, 40, 33, 40, 109, 97, 105, 108, 61, 42, 41, 41, 41]
def F2 : Flt := .mk 8 [97] [] [[98], [], [99]] []
def T2 : Bs := [40, 97, 61, 98, 42, 42, 99, 41]
def F3 : Flt := .mk 8 [97] [] [[], [98], []] []
def T3 : Bs := [40, 97, 61, 42, 98, 42, 41]
def F4 : Flt := eqF E8.cnN [97, 42, 98]
def T4 : Bs := [40, 99, 110, 61, 97, 92, 50, 97, 98, 41]
def F5 : Flt := notF (.mk 1 [] [] [] [eqF [97] [49], notF (eqF [98] [50])])
def F6 : Flt := .mk 2 [] [] [] [notF (eqF [97] [49]), eqF [98] [50]]
def T6 : Bs := [40, 124, 40, 33, 40, 97, 61, 49, 41, 41, 40, 98, 61, 50, 41, 41]
def F7 : Flt := .mk 8 E8.cnN [] [[97, 110, 110], [101, 101]] []
def F8 : Flt := .mk 5 ageN [57] [] []
def F9 : Flt := eqF E8.cnN [98, 111, 98]
def F0 : Flt := .mk 0 [] [] [] []
theorem ev_check : Idn.sCheck personS = 0 := by kernel_rfl
theorem person_ssm : SSm personS := by unfold SSm TSm CSm Sm personS; decide
theorem ann_asm : Idn.ASm7 annL := by unfold Idn.ASm7 annL; decide
theorem ev_t1 : fTxt F1 = T1 := by kernel_rfl
theorem ev_t2 : fTxt F2 = T2 := by kernel_rfl
theorem ev_t3 : fTxt F3 = T3 := by kernel_rfl
theorem ev_c1 : fCheck F1 = 0 := by kernel_rfl
theorem ev_c2 : fCheck F2 = 4 := by kernel_rfl
theorem ev_c3 : fCheck F3 = 0 := by kernel_rfl
theorem ev_c0 : fCheck F0 = 4 := by kernel_rfl
theorem ev_x4 : fText F4 = (T4, 0) := by kernel_rfl
theorem ev_s5 : fSimp F5 = F6 := by kernel_rfl
theorem ev_x6 : fText F6 = (T6, 0) := by kernel_rfl
theorem ev_m1 : fMatch personS annL F1 = true := by kernel_rfl
theorem ev_m7 : fMatch personS annL F7 = true := by kernel_rfl
theorem ev_m8 : fMatch personS annL F8 = true := by kernel_rfl
theorem ev_m9 : fMatch personS annL F9 = false := by kernel_rfl
theorem ev_n1 : (fNames F1).length = 2 := by kernel_rfl
theorem ev_k1 : min (fSize F1) 65 = 4 := by kernel_rfl
theorem ev_r1 : rdOk F1 := rd_of_ok F1 (by kernel_rfl)
theorem ev_r3 : rdOk F3 := rd_of_ok F3 (by kernel_rfl)
theorem ev_r2 : rdOk F2 := by unfold F2; rw [rdOk]; exact .inr ⟨by decide, rfl, .inr (.inr ⟨rfl, rfl, by decide, by decide⟩)⟩
theorem sm1 : FSm 80 F1 := ⟨by decide, by unfold F1 eqF notF; simp [fOk, fOks, Idn.mainN, E8.personN, mailN]⟩
end E9
end Go.Proofs.YtmamnmjfbadiiaaGreatDoor
/- Plain laws of filters: parts between a beginning and an end, from the left or with the end cut first. -/
namespace Go.Proofs.YtmamnmjfbadiiaaGreatDoor
open Go.RowKit Go.Sort
open Idn (L B Bs)
theorem fnd_suf {p : Bs} : ∀ {r r' : Bs}, fnd p r = some r' → ∃ a, r = a ++ r' ∧ p.length ≤ a.length
  | [], r', h => by
    unfold fnd at h
    split at h
    · rename_i hp
      injection h with h
      subst h hp
      exact ⟨[], rfl, Nat.le_refl _⟩
    · cases h
  | c :: l, r', h => by
    unfold fnd at h
    split at h
    · rename_i hp
      injection h with h
      subst h
      have hl : p.length ≤ (c :: l).length := (List.isPrefixOf_iff_prefix.1 hp).length_le
      exact ⟨(c :: l).take p.length, (List.take_append_drop _ _).symm, by rw [List.length_take]; omega⟩
    · obtain ⟨a, h1, h2⟩ := fnd_suf h
      exact ⟨c :: a, by rw [h1]; rfl, by rw [List.length_cons]; omega⟩
theorem fnd_app {p e : Bs} : ∀ {u u' : Bs}, fnd p u = some u' → fnd p (u ++ e) = some (u' ++ e)
  | [], u', h => by
    unfold fnd at h
    split at h
    · rename_i hp
      injection h with h
      subst h hp
      cases e with
      | nil => rfl
      | cons c l => rw [List.nil_append, fnd, if_pos (by rfl)]; rfl
    · cases h
  | c :: u, u', h => by
    have hl : p.length ≤ (c :: u).length := by
      obtain ⟨a, h1, h2⟩ := fnd_suf h
      rw [h1, List.length_append]; omega
    unfold fnd at h
    rw [List.cons_append, fnd]
    split at h
    · rename_i hp
      injection h with h
      subst h
      have hp' : p.isPrefixOf (c :: (u ++ e)) = true := List.isPrefixOf_iff_prefix.2 ((List.isPrefixOf_iff_prefix.1 hp).trans (by rw [← List.cons_append]; exact List.prefix_append _ _))
      rw [if_pos hp', ← List.cons_append, List.drop_append_of_le_length hl]
    · rename_i hp
      rw [if_neg, fnd_app h]
      intro hq
      have h1 := List.isPrefixOf_iff_prefix.1 hq
      rw [← List.cons_append] at h1
      exact hp (List.isPrefixOf_iff_prefix.2 (List.prefix_of_prefix_length_le h1 (List.prefix_append _ _) hl))
theorem fnd_none {p e : Bs} : ∀ {u : Bs}, fnd p u = none → ∀ r', fnd p (u ++ e) = some r' → r'.length < e.length
  | [], h, r', h2 => by
    have hp : p ≠ [] := by
      intro hp
      subst hp
      unfold fnd at h
      rw [if_pos rfl] at h
      cases h
    obtain ⟨a, h3, h4⟩ := fnd_suf h2
    have := List.length_pos_iff.2 hp
    have h5 := congrArg List.length h3
    rw [List.nil_append, List.length_append] at h5
    omega
  | c :: u, h, r', h2 => by
    unfold fnd at h
    split at h
    · cases h
    · rename_i hp
      rw [List.cons_append, fnd] at h2
      split at h2
      · rename_i hq
        injection h2 with h2
        have h1 := List.isPrefixOf_iff_prefix.1 hq
        rw [← List.cons_append] at h1
        have hl : (c :: u).length < p.length := by
          apply Nat.lt_of_not_le
          intro hl
          exact hp (List.isPrefixOf_iff_prefix.2 (List.prefix_of_prefix_length_le h1 (List.prefix_append _ _) hl))
        have h3 := h1.length_le
        rw [← h2, List.length_drop, List.length_cons, List.length_append]
        rw [List.length_append] at h3
        rw [List.length_cons] at hl h3
        omega
      · exact fnd_none h r' h2
theorem fnds_suf : ∀ {ms : List Bs} {r r' : Bs}, fnds ms r = some r' → ∃ a, r = a ++ r'
  | [], r, r', h => by injection h with h; exact ⟨[], by rw [h]; rfl⟩
  | p :: ms, r, r', h => by
    unfold fnds at h
    obtain ⟨x, h1, h2⟩ := Option.bind_eq_some_iff.1 h
    obtain ⟨a, h3, _⟩ := fnd_suf h1
    obtain ⟨b, h4⟩ := fnds_suf h2
    exact ⟨a ++ b, by rw [h3, h4, List.append_assoc]⟩
theorem fnds_app {e : Bs} : ∀ {ms : List Bs} {u u' : Bs}, fnds ms u = some u' → fnds ms (u ++ e) = some (u' ++ e)
  | [], u, u', h => by injection h with h; rw [h]; rfl
  | p :: ms, u, u', h => by
    unfold fnds at h ⊢
    obtain ⟨x, h1, h2⟩ := Option.bind_eq_some_iff.1 h
    rw [fnd_app h1]
    exact fnds_app h2
theorem fnds_none {e : Bs} : ∀ {ms : List Bs} {u : Bs}, fnds ms u = none → ∀ r', fnds ms (u ++ e) = some r' → r'.length < e.length
  | [], u, h, r', _ => by cases h
  | p :: ms, u, h, r', h2 => by
    unfold fnds at h h2
    obtain ⟨x, h3, h4⟩ := Option.bind_eq_some_iff.1 h2
    cases hu : fnd p u with
    | none =>
      have h5 := fnd_none hu x h3
      obtain ⟨a, h6⟩ := fnds_suf h4
      have := congrArg List.length h6
      rw [List.length_append] at this
      omega
    | some y =>
      rw [hu] at h
      rw [fnd_app hu] at h3
      injection h3 with h3
      subst h3
      exact fnds_none h r' h4
theorem ends_law (e : Bs) (ms : List Bs) (r : Bs) : ((cutS e r).bind fun r => fnds ms r).isSome = match fnds ms r with | none => false | some r' => e.isSuffixOf r' := by
  unfold cutS
  by_cases h : e.isSuffixOf r = true
  · rw [if_pos h]
    obtain ⟨u, hu⟩ := List.isSuffixOf_iff_suffix.1 h
    subst hu
    have e1 : (u ++ e).take ((u ++ e).length - e.length) = u := by rw [List.length_append, Nat.add_sub_cancel, List.take_left']; rfl
    rw [e1, Option.bind_some]
    cases hu : fnds ms u with
    | some u' =>
      rw [fnds_app hu]
      show true = e.isSuffixOf (u' ++ e)
      exact (List.isSuffixOf_iff_suffix.2 (List.suffix_append _ _)).symm
    | none =>
      show false = _
      cases hr : fnds ms (u ++ e) with
      | none => rfl
      | some r' =>
        have h1 := fnds_none hu r' hr
        show false = e.isSuffixOf r'
        symm
        apply Bool.eq_false_iff.2
        intro h2
        have := (List.isSuffixOf_iff_suffix.1 h2).length_le
        omega
  · rw [if_neg h, Option.bind_none]
    show false = _
    cases hr : fnds ms r with
    | none => rfl
    | some r' =>
      show false = e.isSuffixOf r'
      symm
      apply Bool.eq_false_iff.2
      intro h2
      obtain ⟨a, h3⟩ := fnds_suf hr
      exact h (List.isSuffixOf_iff_suffix.2 ((List.isSuffixOf_iff_suffix.1 h2).trans ⟨a, h3.symm⟩))
end Go.Proofs.YtmamnmjfbadiiaaGreatDoor
/- Plain: what the reader of text forms finds: runs of plain bytes, codes, parts. -/
namespace Go.Proofs.YtmamnmjfbadiiaaGreatDoor
open Go.RowKit Go.Sort
open Idn (L B Bs)
def vEnd (t : Bs) : Prop := ∃ c r, t = c :: r ∧ (c = 41 ∨ c = 42)
theorem escF1_plain {c : UInt8} (h : vStop c = false) : escF1 c = [c] := by
 unfold vStop at h
 simp only [List.contains_cons, List.contains_nil, Bool.or_false, Bool.or_eq_false_iff, beq_eq_false_iff_ne] at h
 unfold escF1
 rw [if_neg h.1, if_neg h.2.1, if_neg h.2.2.1, if_neg h.2.2.2]
theorem escF_cons (c : UInt8) (v : Bs) : escF (c :: v) = escF1 c ++ escF v := by unfold escF; rw [List.flatMap_cons]
theorem stop_cases {c : UInt8} (h : vStop c = true) : c = 40 ∨ c = 41 ∨ c = 42 ∨ c = 92 := by
 unfold vStop at h
 simpa using h
theorem esc_run (t : Bs) (ht : vEnd t) : ∀ v : Bs, (escF v ++ t).takeWhile (fun c => !vStop c) = v.takeWhile (fun c => !vStop c) ∧ (escF v ++ t).dropWhile (fun c => !vStop c) = escF (v.dropWhile fun c => !vStop c) ++ t
  | [] => by
    obtain ⟨c, r, rfl, hc⟩ := ht
    have : vStop c = true := by rcases hc with rfl | rfl <;> decide
    have e : escF [] = [] := rfl
    rw [e, List.nil_append]
    simp [this, e]
  | c :: v => by
    obtain ⟨h1, h2⟩ := esc_run t ht v
    rw [escF_cons]
    cases hc : vStop c with
    | false =>
      rw [escF1_plain hc]
      simp only [List.cons_append, List.nil_append, List.takeWhile_cons, List.dropWhile_cons, hc, Bool.not_false, if_true]
      exact ⟨by rw [h1], h2⟩
    | true =>
      have h92 : vStop 92 = true := by decide
      have e : ∃ r, escF1 c = 92 :: r := by
        rcases stop_cases hc with rfl | rfl | rfl | rfl
        · exact ⟨[50, 56], rfl⟩
        · exact ⟨[50, 57], rfl⟩
        · exact ⟨[50, 97], rfl⟩
        · exact ⟨[53, 99], rfl⟩
      obtain ⟨r, hr⟩ := e
      simp only [List.takeWhile_cons, List.dropWhile_cons, hc, Bool.not_true, Bool.false_eq_true, if_false]
      rw [escF_cons, hr]
      simp [h92]
theorem end_code {t : Bs} (ht : vEnd t) (a b : UInt8) : [92, a, b].isPrefixOf t = false := by
 obtain ⟨c, r, rfl, hc⟩ := ht
 rcases hc with rfl | rfl <;> simp [List.isPrefixOf]
theorem run_split (v : Bs) : v = v.takeWhile (fun c => !vStop c) ++ v.dropWhile fun c => !vStop c := List.takeWhile_append_dropWhile.symm
theorem drop_stop {v w : Bs} {c : UInt8} (h : (v.dropWhile fun c => !vStop c) = c :: w) : vStop c = true := by
 have := List.head?_dropWhile_not (fun c => !vStop c) v
 rw [h] at this
 simpa using this
theorem code_40 (w t : Bs) : [92, 50, 56].isPrefixOf (escF (40 :: w) ++ t) = true ∧ (escF (40 :: w) ++ t).drop 3 = escF w ++ t := by
 rw [escF_cons]; exact ⟨rfl, rfl⟩
theorem code_41 (w t : Bs) : [92, 50, 56].isPrefixOf (escF (41 :: w) ++ t) = false ∧ [92, 50, 57].isPrefixOf (escF (41 :: w) ++ t) = true ∧ (escF (41 :: w) ++ t).drop 3 = escF w ++ t := by
 rw [escF_cons]; exact ⟨rfl, rfl, rfl⟩
theorem code_42 (w t : Bs) : [92, 50, 56].isPrefixOf (escF (42 :: w) ++ t) = false ∧ [92, 50, 57].isPrefixOf (escF (42 :: w) ++ t) = false ∧ [92, 50, 97].isPrefixOf (escF (42 :: w) ++ t) = true ∧ (escF (42 :: w) ++ t).drop 3 = escF w ++ t := by
 rw [escF_cons]; exact ⟨rfl, rfl, rfl, rfl⟩
theorem code_92 (w t : Bs) : [92, 50, 56].isPrefixOf (escF (92 :: w) ++ t) = false ∧ [92, 50, 57].isPrefixOf (escF (92 :: w) ++ t) = false ∧ [92, 50, 97].isPrefixOf (escF (92 :: w) ++ t) = false ∧ [92, 53, 99].isPrefixOf (escF (92 :: w) ++ t) = true ∧ (escF (92 :: w) ++ t).drop 3 = escF w ++ t := by
 rw [escF_cons]; exact ⟨rfl, rfl, rfl, rfl, rfl⟩
theorem name_run {n : Bs} (h : n.all (fun c => !nStop c) = true) (c : UInt8) (t : Bs) (hc : nStop c = true) : (n ++ c :: t).takeWhile (fun c => !nStop c) = n ∧ (n ++ c :: t).dropWhile (fun c => !nStop c) = c :: t := by
 have h' : ∀ x ∈ n, (fun c => !nStop c) x = true := List.all_eq_true.1 h
 constructor
 ·rw [List.takeWhile_append_of_pos h']; simp [hc]
 ·rw [List.dropWhile_append_of_pos h']; simp [hc]
def tailF (k : Int) (v : Bs) (ps : List Bs) : Bs :=
 if k = 4 then 61 :: escF v else if k = 5 then 62 :: 61 :: escF v else if k = 6 then 60 :: 61 :: escF v else if k = 7 then [61, 42] else 61 :: Idn.joinL [42] (ps.map escF)
theorem txt_cmp {k : Int} (h : isCmp k = true) (n v : Bs) (ps : List Bs) (ks : List Flt) : fTxt (.mk k n v ps ks) = 40 :: (n ++ (tailF k v ps ++ [41])) := by
 have := cmp_kind h
 rw [fTxt]
 unfold txtF tailF
 rw [if_neg this.1, if_neg this.2.1, if_neg this.2.2.1]
 by_cases h4 : k = 4
 ·rw [if_pos h4, if_pos h4]; simp
 ·rw [if_neg h4, if_neg h4]
  by_cases h5 : k = 5
  ·rw [if_pos h5, if_pos h5]; simp
  ·rw [if_neg h5, if_neg h5]
   by_cases h6 : k = 6
   ·rw [if_pos h6, if_pos h6]; simp
   ·rw [if_neg h6, if_neg h6]
    by_cases h7 : k = 7
    ·rw [if_pos h7, if_pos h7]; simp
    ·rw [if_neg h7, if_neg h7]; simp
theorem esc_no_end (v t : Bs) (ht : vEnd t) (h : v ≠ [] ∨ t.headD 0 ≠ 42) : [42].isPrefixOf (escF v ++ t) = false := by
  cases v with
  | nil =>
    obtain ⟨c, r, rfl, hc⟩ := ht
    have : c ≠ 42 := by rcases h with h | h
                        · exact absurd rfl h
                        · exact h
    have e : escF [] = [] := rfl
    rw [e]
    simp [List.isPrefixOf]
    first | exact fun e => this e.symm | exact fun e => absurd e.symm this
  | cons c v =>
    rw [escF_cons]
    cases hc : vStop c with
    | false =>
      rw [escF1_plain hc]
      have : c ≠ 42 := by rintro rfl; revert hc; decide
      simp [List.isPrefixOf]
      first | exact fun e => this e.symm | exact fun e => absurd e.symm this
    | true => rcases stop_cases hc with rfl | rfl | rfl | rfl <;> rfl
def partsT (ps : List Bs) : Bs := Idn.joinR [42] (ps.map escF)
theorem partsT_cons (p : Bs) (ps : List Bs) : partsT (p :: ps) = 42 :: (escF p ++ partsT ps) := rfl
theorem partsT_end (ps : List Bs) (t : Bs) : vEnd (partsT ps ++ 41 :: t) := by
 cases ps with
 | nil => exact ⟨41, t, rfl, .inl rfl⟩
 | cons p ps => exact ⟨42, _, rfl, .inr rfl⟩
theorem parts_not {p : Bs} {ps : List Bs} (h1 : ps ≠ []) (h2 : p :: ps ≠ [[], []]) (t : Bs) : [42, 41].isPrefixOf (escF p ++ (partsT ps ++ 41 :: t)) = false := by
  cases p with
  | cons c p =>
    have := esc_no_end (c :: p) (partsT ps ++ 41 :: t) (partsT_end ps t) (.inl (by simp))
    rw [escF_cons] at this ⊢
    cases hc : vStop c with
    | false =>
      rw [escF1_plain hc]
      have : c ≠ 42 := by rintro rfl; revert hc; decide
      simp [List.isPrefixOf]
      first | exact fun e => this e.symm | exact fun e => absurd e.symm this
    | true => rcases stop_cases hc with rfl | rfl | rfl | rfl <;> rfl
  | nil =>
    match ps, h1, h2 with
    | q :: ps, _, h2 =>
      rw [partsT_cons]
      have e : escF [] = [] := rfl
      rw [e]
      cases q with
      | nil =>
        match ps, h2 with
        | r :: ps, _ => rw [partsT_cons, e]; rfl
      | cons c q =>
        rw [escF_cons]
        cases hc : vStop c with
        | false =>
          rw [escF1_plain hc]
          have : c ≠ 41 := by rintro rfl; revert hc; decide
          simp [List.isPrefixOf]
          first | exact fun e => this e.symm | exact fun e => absurd e.symm this
        | true => rcases stop_cases hc with rfl | rfl | rfl | rfl <;> rfl
end Go.Proofs.YtmamnmjfbadiiaaGreatDoor
