/- Part 42 of the proof that identitylaw08.EntryApplies returns true: the package variables hold what the program lays; nothing else is asked. -/
import Derived.Test.YtoopoglkeeoamaaGreatDoorEap41
set_option linter.unusedVariables false
set_option linter.unusedSimpArgs false
set_option maxRecDepth 100000
set_option maxHeartbeats 8000000
/- Plain laws: the general normal form of attributes; attributes in the order of their names. -/
namespace Idn
open Go
theorem mem_lows {l : List Att} {m : Bs} : m ∈ lows l ↔ valsOf l m ≠ [] := by
 unfold lows valsOf
 rw [Ne, List.flatMap_eq_nil_iff, List.mem_map]
 constructor
 ·rintro ⟨a, ha, rfl⟩ h
  rw [List.mem_filter] at ha
  have := h a (List.mem_filter.2 ⟨ha.1, by simp⟩)
  rw [this] at ha; simp at ha
 ·intro h
  refine Decidable.byContradiction fun hn => h fun a ha => ?_
  rw [List.mem_filter] at ha
  refine Decidable.byContradiction fun hv => hn ⟨a, List.mem_filter.2 ⟨ha.1, ?_⟩, by simpa using ha.2⟩
  simpa using List.length_pos_iff.2 hv
theorem sort_names {q : List Att} {ns : List Bs} {f : Bs → Att} (h1 : ∀ a ∈ q, a = f a.name) (h2 : (q.map (·.name)).Nodup) (h3 : ∀ m, m ∈ q.map (·.name) ↔ m ∈ ns) (h4 : ns.Pairwise (· < ·)) :
  q.mergeSort (fun a b => decide (a.name ≤ b.name)) = ns.map f := by
 have hp : (q.mergeSort fun a b => decide (a.name ≤ b.name)).Perm q := List.mergeSort_perm _ _
 have hs : (q.mergeSort fun a b => decide (a.name ≤ b.name)).Pairwise fun a b => decide (a.name ≤ b.name) = true := List.pairwise_mergeSort (fun a b c h1 h2 => by
   rw [decide_eq_true_eq] at *; exact List.le_trans h1 h2) (fun a b => by
   rw [Bool.or_eq_true, decide_eq_true_eq, decide_eq_true_eq]; exact List.le_total _ _) _
 generalize (q.mergeSort fun a b => decide (a.name ≤ b.name)) = r at *
 have e : r.map (·.name) = ns := by
  refine uniq _ _ ?_ h4 fun x => by rw [(hp.map (·.name)).mem_iff]; exact h3 x
  rw [← (hp.map (·.name)).nodup_iff] at h2
  rw [List.pairwise_map]
  rw [List.nodup_iff_pairwise_ne, List.pairwise_map] at h2
  refine List.Pairwise.imp₂ ?_ hs h2
  intro a b h1 h2
  rw [decide_eq_true_eq] at h1
  exact Decidable.byContradiction fun hn => h2 (List.le_antisymm h1 (List.not_lt.1 hn))
 rw [← e, List.map_map]
 have : ∀ a ∈ r, (f ∘ (·.name)) a = a := fun a ha => (h1 a (hp.mem_iff.1 ha)).symm
 rw [List.map_congr_left this, List.map_id']
theorem grp_vals {l : List Att} {b : Att} (hb : b ∈ grp [] l) : b.vals = valsOf l b.name := by
 have h1 := tot_self (grp [] l) (grp_nd l [] (by simp)) b hb
 rw [grp_tot _ l [] (by simp)] at h1
 exact h1.symm
def full (a : Att) : Bool := decide (a.vals.length ≠ 0)
theorem sortedG_law (l : List Att) : (((grp [] l).filter full).map normA).mergeSort (fun a b => decide (a.name ≤ b.name)) = rSorted l := by
 refine sort_names (f := rOne l) (fun a ha => ?_) ?_ (fun m => ?_) (insAll_lt _)
 ·obtain ⟨b, hb, rfl⟩ := List.mem_map.1 ha
  have hv := grp_vals (List.mem_filter.1 hb).1
  unfold normA rOne
  dsimp only
  rw [← hv]
  congr 1
  exact law b.vals
 ·rw [norm_names]
  exact (List.filter_sublist.map _).nodup (grp_nd l [] (by simp))
 ·rw [norm_names, insAll_mem, mem_lows]
  constructor
  ·intro h
   obtain ⟨b, hb, rfl⟩ := List.mem_map.1 h
   rw [List.mem_filter] at hb
   rw [← grp_vals hb.1]
   intro e
   have := hb.2
   unfold full at this
   rw [e] at this
   simp at this
  ·intro h
   have hm : m ∈ (grp [] l).map (·.name) := by
    rw [grp_names]
    have h2 := mem_lows.2 h
    unfold lows at h2
    obtain ⟨a, ha, rfl⟩ := List.mem_map.1 h2
    exact .inr (List.mem_map.2 ⟨a, (List.mem_filter.1 ha).1, rfl⟩)
   obtain ⟨b, hb, rfl⟩ := List.mem_map.1 hm
   refine List.mem_map.2 ⟨b, List.mem_filter.2 ⟨hb, ?_⟩, rfl⟩
   unfold full
   rw [grp_vals hb, decide_eq_true_eq]
   intro e
   exact h (List.eq_nil_of_length_eq_zero e)
theorem attErr_zero {p : List Att} {a : Att} (h : attErr p a = 0) : name a.name = true ∧ ixA p a.name = none ∧ a.vals.length ≠ 0 ∧ a.vals.length ≤ 16 ∧ valsErr [] a.vals = 0 := by
 unfold attErr at h
 split at h
 ·cases h
 ·rename_i h1
  split at h
  ·cases h
  ·rename_i h2
   split at h
   ·cases h
   ·rename_i h3
    split at h
    ·cases h
    ·rename_i h4
     exact ⟨by simpa using h1, by simpa using h2, h3, by omega, h⟩
theorem atts_nd : ∀ (l p : List Att), attsErr p l = 0 → (∀ a ∈ l, ∀ b ∈ p, lower b.name ≠ lower a.name) ∧ (l.map fun a => lower a.name).Nodup ∧ ∀ a ∈ l, name a.name = true ∧ valsErr [] a.vals = 0
  | [], _, _ => by simp
  | c :: l, p, h => by
    rw [attsErr] at h
    by_cases hb : attErr p c = 0
    · rw [if_neg (by simpa using hb)] at h
      obtain ⟨z1, z2, z3, z4, z5⟩ := attErr_zero hb
      obtain ⟨i1, i2, i3⟩ := atts_nd l (p ++ [c]) h
      have hc : ∀ b ∈ p, lower b.name ≠ lower c.name := fun b hbm => by
        have := List.findIdx?_eq_none_iff.1 z2 b hbm
        simpa using this
      refine ⟨fun a ha b hbm => ?_, ?_, fun a ha => ?_⟩
      · rcases List.mem_cons.1 ha with rfl | ha
        · exact hc b hbm
        · exact i1 a ha b (List.mem_append_left _ hbm)
      · rw [List.map_cons, List.nodup_cons]
        refine ⟨fun hm => ?_, i2⟩
        obtain ⟨a, ha, e⟩ := List.mem_map.1 hm
        exact i1 a ha c (List.mem_append_right _ (by simp)) e.symm
      · rcases List.mem_cons.1 ha with rfl | ha
        · exact ⟨z1, z5⟩
        · exact i3 a ha
    · rw [if_pos (by simpa using hb)] at h
      exact absurd h hb
theorem aCheck_all {l : List Att} (h : aCheck l = 0) : l.length ≤ 32 ∧ (l.map fun a => lower a.name).Nodup ∧ ∀ a ∈ l, name a.name = true ∧ valsErr [] a.vals = 0 := by
 unfold aCheck at h
 split at h
 ·cases h
 ·obtain ⟨_, h2, h3⟩ := atts_nd l [] h
  exact ⟨by omega, h2, h3⟩
def lowA (a : Att) : Att := ⟨lower a.name, a.vals⟩
def lastV (l : List Att) (n : Bs) : List Bs := l.foldl (fun acc a => if lower a.name = n then a.vals else acc) []
theorem last_acc (n : Bs) : ∀ (l : List Att) (acc : List Bs), n ∉ (l.map fun a => lower a.name) → l.foldl (fun acc a => if lower a.name = n then a.vals else acc) acc = acc
  | [], _, _ => rfl
  | a :: l, acc, h => by
    simp only [List.map_cons, List.mem_cons, not_or] at h
    rw [List.foldl_cons, if_neg (fun e => h.1 e.symm), last_acc n l acc h.2]
theorem last_at : ∀ (l : List Att) (acc : List Bs), (l.map fun a => lower a.name).Nodup → ∀ a ∈ l, l.foldl (fun acc b => if lower b.name = lower a.name then b.vals else acc) acc = a.vals
  | b :: l, acc, h, a, ha => by
    rw [List.map_cons, List.nodup_cons] at h
    rw [List.foldl_cons]
    rcases List.mem_cons.1 ha with rfl | ha
    · rw [if_pos rfl, last_acc _ _ _ h.1]
    · exact last_at l _ h.2 a ha
theorem byName {l : List Att} (hn : (l.map fun a => lower a.name).Nodup) (hv : ∀ a ∈ l, a.vals.length ≠ 0) :
  (l.map lowA).mergeSort (fun a b => decide (a.name ≤ b.name)) = (insAll (lows l)).map fun n => ⟨n, lastV l n⟩ := by
 have e : (l.map lowA).map (·.name) = l.map fun a => lower a.name := by rw [List.map_map]; rfl
 refine sort_names (fun a ha => ?_) (by rw [e]; exact hn) (fun m => ?_) (insAll_lt _)
 ·obtain ⟨b, hb, rfl⟩ := List.mem_map.1 ha
  show lowA b = ⟨lower b.name, lastV l (lower b.name)⟩
  unfold lastV
  rw [last_at l [] hn b hb]; rfl
 ·rw [e, insAll_mem, lows_all hv]
theorem grp_low : ∀ (l acc : List Att), grp acc (l.map lowA) = grp acc l
  | [], _ => rfl
  | a :: l, acc => by
    rw [List.map_cons, grp, grp, grp_low l]
    show grp (addA acc (lower (lower a.name)) a.vals) l = _
    rw [lower_lower]
theorem aSorted_low (l : List Att) : aSorted (l.map lowA) = aSorted l := by unfold aSorted; rw [grp_low]
end Idn
namespace Go.Proofs.YtoopoglkeeoamaaGreatDoor
open Go.RowKit Go.Sort
open Idn (L B Bs lowA)
theorem tyLook_low (s : Idn.Sch) (n : Bs) : tyLook s (Idn.lower n) = tyLook s n := by unfold tyLook Idn.ixT; rw [Idn.lower_lower]
theorem sNorm_low (s : Idn.Sch) (n v : Bs) : sNorm s (Idn.lower n) v = sNorm s n v := by unfold sNorm kNorm; rw [tyLook_low]
theorem eValsK_low (s : Idn.Sch) (n : Bs) : ∀ (l acc : List Bs), eValsK s (Idn.lower n) acc l = eValsK s n acc l
 | [], _ => rfl
 | v :: l, acc => by rw [eValsK, eValsK, sNorm_low, eValsK_low s n l]
theorem eAtt_low (s : Idn.Sch) (n : Bs) (l : List Bs) : eAtt s (Idn.lower n) l = eAtt s n l := by unfold eAtt eVals; rw [eValsK_low]
theorem eAttsK_low (s : Idn.Sch) : ∀ (l acc : List Idn.Att), eAttsK s (acc.map lowA) (l.map lowA) = ((eAttsK s acc l).1.map lowA, (eAttsK s acc l).2)
  | [], acc => rfl
  | a :: l, acc => by
    rw [List.map_cons, eAttsK, eAttsK]
    show (if (eAtt s (Idn.lower a.name) a.vals).2 != 0 then (([] : List Idn.Att), (eAtt s (Idn.lower a.name) a.vals).2) else eAttsK s (acc.map lowA ++ [⟨Idn.lower a.name, (eAtt s (Idn.lower a.name) a.vals).1⟩]) (l.map lowA)) = _
    rw [eAtt_low]
    split
    · rfl
    · have := eAttsK_low s l (acc ++ [⟨a.name, (eAtt s a.name a.vals).1⟩])
      rw [List.map_append] at this
      exact this
theorem byLow_low (l : List Idn.Att) : (byLow l).map lowA = (l.map lowA).mergeSort (fun a b => decide (a.name ≤ b.name)) := by
 unfold byLow
 exact List.map_mergeSort (fun a _ b _ => rfl)
theorem eValsK_len (s : Idn.Sch) (n : Bs) : ∀ (l acc : List Bs), (eValsK s n acc l).2 = 0 → (eValsK s n acc l).1.length = acc.length + l.length
  | [], acc, _ => by simp [eValsK]
  | v :: l, acc, h => by
    rw [eValsK] at h ⊢
    by_cases h0 : (sNorm s n v).2 = 0
    · rw [if_neg (by simpa using h0)] at h ⊢
      rw [eValsK_len s n l _ h]; simp; omega
    · rw [if_pos (by simpa using h0)] at h
      exact absurd h h0
theorem eAtt_len {s : Idn.Sch} {n : Bs} {l : List Bs} (h : (eAtt s n l).2 = 0) : (eAtt s n l).1.length = l.length := by
 unfold eAtt at h ⊢
 split at h
 ·rename_i h1
  exact absurd h (by simpa using h1)
 ·rename_i h1
  rw [if_neg h1]
  split at h
  ·cases h
  ·rename_i h2
   rw [if_neg h2]
   have := eValsK_len s n l [] (by simpa [eVals] using h1)
   simpa [eVals] using this
theorem eAttsK_full (s : Idn.Sch) : ∀ (l acc : List Idn.Att), (∀ a ∈ acc, a.vals.length ≠ 0) → (∀ a ∈ l, a.vals.length ≠ 0) → ∀ a ∈ (eAttsK s acc l).1, a.vals.length ≠ 0
  | [], _, h, _ => h
  | b :: l, acc, h, hl => by
    rw [eAttsK]
    split
    · simp
    · rename_i h1
      refine eAttsK_full s l _ (fun a ha => ?_) fun a ha => hl a (List.mem_cons_of_mem _ ha)
      rcases List.mem_append.1 ha with ha | ha
      · exact h a ha
      · rw [List.mem_singleton] at ha
        subst ha
        show (eAtt s b.name b.vals).1.length ≠ 0
        rw [eAtt_len (by simpa using h1)]
        exact hl b List.mem_cons_self
def rENormal (s : Idn.Sch) (n : Bs) (l : List Idn.Att) : En × Int :=
 if (Idn.cleanN n).2 != 0 || (Idn.cleanN n).1.isEmpty then (([], []), 5)
 else if Idn.aCheck l != 0 then (([], []), Idn.aCheck l)
 else if (eAttsK s [] ((Idn.insAll (Idn.lows l)).map fun n => ⟨n, Idn.lastV l n⟩)).2 != 0 then (([], []), (eAttsK s [] ((Idn.insAll (Idn.lows l)).map fun n => ⟨n, Idn.lastV l n⟩)).2)
 else eOut s (Idn.cleanN n).1 (Idn.rSorted (eAttsK s [] ((Idn.insAll (Idn.lows l)).map fun n => ⟨n, Idn.lastV l n⟩)).1)
theorem byLow_full {l : List Idn.Att} (h : ∀ a ∈ l, a.vals.length ≠ 0) : ∀ a ∈ byLow l, a.vals.length ≠ 0 := fun a ha => h a ((List.mergeSort_perm _ _).mem_iff.1 ha)
theorem rENormal_eq (s : Idn.Sch) (n : Bs) (l : List Idn.Att) : rENormal s n l = eNormal s n l := by
 unfold rENormal eNormal
 split
 ·rfl
 ·split
  ·rfl
  ·rename_i h1 h2
   have h0 : Idn.aCheck l = 0 := by simpa using h2
   obtain ⟨_, h3, _⟩ := Idn.aCheck_all h0
   have h4 := fun a ha => ((aCheck_zero h0).2 a ha).1
   rw [← Idn.byName h3 h4, ← byLow_low]
   have e := eAttsK_low s (byLow l) []
   rw [List.map_nil] at e
   rw [e]
   dsimp only
   have e2 : Idn.rSorted ((eAttsK s [] (byLow l)).1.map lowA) = Idn.aSorted (eAttsK s [] (byLow l)).1 := by
    rw [Idn.rSorted_eq, Idn.aSorted_low]
    intro a ha
    obtain ⟨b, hb, rfl⟩ := List.mem_map.1 ha
    exact eAttsK_full s (byLow l) [] (by simp) (byLow_full h4) b hb
   rw [e2]
end Go.Proofs.YtoopoglkeeoamaaGreatDoor
/- Plain laws: the changes of attributes by the reference are the layer's; differences. -/
namespace Idn
open Go
theorem find_name (f : Bs → Att) (hf : ∀ n, (f n).name = n) (n : Bs) : ∀ ns : List Bs, (match (ns.map f).findIdx? (fun a => decide (a.name = n)) with
    | none => []
    | some k => match (ns.map f)[k]? with | none => [] | some a => a.vals) = if n ∈ ns then (f n).vals else []
  | [] => by simp
  | m :: ns => by
    have ih := find_name f hf n ns
    rw [List.map_cons, List.findIdx?_cons, hf m]
    by_cases h : m = n
    · subst h; simp
    · have hn : n ≠ m := fun e => h e.symm
      simp only [h, decide_false, Bool.false_eq_true, if_false, List.mem_cons, hn, false_or]
      rw [← ih]
      cases (ns.map f).findIdx? (fun a => decide (a.name = n)) with
      | none => rfl
      | some k => simp
theorem insAll_length {v : List Bs} (h : v.Nodup) : (insAll v).length = v.length := by
 have h1 : (insAll v).Nodup := (insAll_lt v).imp fun h e => by subst e; exact List.lt_irrefl _ h
 exact ((List.perm_ext_iff_of_nodup h1 h).2 fun x => insAll_mem v x).length_eq
theorem insAll_nodup (v : List Bs) : (insAll v).Nodup := (insAll_lt v).imp fun h e => by subst e; exact List.lt_irrefl _ h
theorem lows_app (x y : List Att) : lows (x ++ y) = lows x ++ lows y := by unfold lows; rw [List.filter_append, List.map_append]
theorem valsOf_app (x y : List Att) (n : Bs) : valsOf (x ++ y) n = valsOf x n ++ valsOf y n := by unfold valsOf; rw [List.filter_append, List.flatMap_append]
theorem rSorted_tail (x : List Att) (n : Bs) (v : List Bs) : rSorted (x ++ [⟨lower n, v⟩]) = rSorted (x ++ [⟨n, v⟩]) := by
 have e1 : lows [⟨lower n, v⟩] = lows [⟨n, v⟩] := by unfold lows; by_cases h : 0 < v.length <;> simp [h, lower_lower]
 have e2 : ∀ m, valsOf [⟨lower n, v⟩] m = valsOf [⟨n, v⟩] m := fun m => by
  unfold valsOf
  by_cases h : lower n = m
  ·subst h; simp [lower_lower, List.filter_cons]
  ·simp [h, lower_lower, List.filter_cons]
 unfold rSorted rOne
 rw [lows_app, lows_app, e1]
 simp only [valsOf_app, e2]
theorem rSorted_name {l : List Att} {a : Att} (h : a ∈ rSorted l) : lower a.name = a.name := by
 unfold rSorted at h
 obtain ⟨m, hm, rfl⟩ := List.mem_map.1 h
 rw [insAll_mem] at hm
 unfold lows at hm
 obtain ⟨b, _, rfl⟩ := List.mem_map.1 hm
 exact lower_lower _
def rWo (l : List Att) (n : Bs) : List Att := (rSorted l).filter fun a => !decide (a.name = lower n)
theorem rWo_none (l : List Att) (n : Bs) : valsOf (rWo l n) (lower n) = [] := by
 unfold valsOf
 rw [List.flatMap_eq_nil_iff]
 intro a ha
 rw [List.mem_filter] at ha
 unfold rWo at ha
 rw [List.mem_filter] at ha
 have h1 := rSorted_name ha.1.1
 have h2 := ha.1.2
 have h3 := ha.2
 rw [h1] at h3
 simp at h2 h3
 exact absurd h3 h2
end Idn
namespace Go.Proofs.YtoopoglkeeoamaaGreatDoor
open Go.RowKit Go.Sort
open Idn (L B Bs)
theorem rGet_law (l : List Idn.Att) (n : Bs) : rGet l n = Idn.insAll (Idn.valsOf l (Idn.lower n)) := by
 unfold rGet Idn.rSorted
 refine Eq.trans (Idn.find_name (Idn.rOne l) (fun _ => rfl) (Idn.lower n) (Idn.insAll (Idn.lows l))) ?_
 split
 ·rfl
 ·rename_i h
  rw [Idn.insAll_mem, Idn.mem_lows] at h
  rw [Decidable.not_not.1 h]; rfl
theorem aSet_eq (l : List Idn.Att) (n : Bs) (v : List Bs) : aSet (Idn.rSorted l) n v = Idn.rSorted (Idn.rWo l n ++ [⟨n, v⟩]) := by
 unfold aSet
 rw [Idn.rSorted_tail]; rfl
theorem valsOf_sorted (m : List Idn.Att) (n : Bs) : Idn.valsOf (Idn.rSorted m) (Idn.lower n) = Idn.insAll (Idn.valsOf m (Idn.lower n)) := by
  unfold Idn.rSorted
  have hlow : ∀ x ∈ Idn.insAll (Idn.lows m), Idn.lower x = x := fun x hx => by
    rw [Idn.insAll_mem] at hx
    unfold Idn.lows at hx
    obtain ⟨b, _, rfl⟩ := List.mem_map.1 hx
    exact Idn.lower_lower _
  have hnd := Idn.insAll_nodup (Idn.lows m)
  have hmem : Idn.lower n ∈ Idn.insAll (Idn.lows m) ↔ Idn.valsOf m (Idn.lower n) ≠ [] := by rw [Idn.insAll_mem, Idn.mem_lows]
  generalize Idn.insAll (Idn.lows m) = ns at *
  have key : ∀ ns : List Bs, (∀ x ∈ ns, Idn.lower x = x) → ns.Nodup → Idn.valsOf (ns.map (Idn.rOne m)) (Idn.lower n) = if Idn.lower n ∈ ns then Idn.insAll (Idn.valsOf m (Idn.lower n)) else [] := by
    intro ns
    induction ns with
    | nil => intro _ _; rfl
    | cons x ns ih =>
      intro h1 h2
      rw [List.nodup_cons] at h2
      have ih := ih (fun y hy => h1 y (List.mem_cons_of_mem _ hy)) h2.2
      have hx := h1 x List.mem_cons_self
      unfold Idn.valsOf at ih ⊢
      rw [List.map_cons]
      by_cases he : x = Idn.lower n
      · have hn : Idn.lower n ∉ ns := he ▸ h2.1
        rw [if_neg hn] at ih
        rw [List.filter_cons_of_pos (by show decide (Idn.lower x = Idn.lower n) = true; rw [hx, he]; simp), List.flatMap_cons, ih, List.append_nil, if_pos (by rw [he]; exact List.mem_cons_self)]
        show Idn.insAll (Idn.valsOf m x) = _
        rw [he]; rfl
      · rw [List.filter_cons_of_neg (by show ¬ decide (Idn.lower x = Idn.lower n) = true; rw [hx]; simpa using he), ih]
        have : Idn.lower n ∈ x :: ns ↔ Idn.lower n ∈ ns := by
          rw [List.mem_cons]
          exact ⟨fun h => h.resolve_left fun e => he e.symm, .inr⟩
        simp only [this]
  rw [key ns hlow hnd]
  split
  · rfl
  · rename_i h
    rw [hmem, Decidable.not_not] at h
    rw [h]; rfl
theorem insAll_idem (v : List Bs) : Idn.insAll (Idn.insAll v) = Idn.insAll v := Idn.uniq _ _ (Idn.insAll_lt _) (Idn.insAll_lt _) fun x => by rw [Idn.insAll_mem]
theorem rGet_sorted (m : List Idn.Att) (n : Bs) : rGet (Idn.rSorted m) n = rGet m n := by rw [rGet_law, rGet_law, valsOf_sorted, insAll_idem]
theorem aSet_get (l : List Idn.Att) (n : Bs) (v : List Bs) : rGet (aSet (Idn.rSorted l) n v) n = Idn.insAll v := by
 have e : aSet (Idn.rSorted l) n v = Idn.rSorted (Idn.rWo l n ++ [⟨Idn.lower n, v⟩]) := by unfold aSet Idn.rWo; rfl
 rw [e, rGet_sorted, rGet_law, Idn.valsOf_app, Idn.rWo_none, List.nil_append]
 congr 1
 unfold Idn.valsOf
 simp [Idn.lower_lower]
def rWith (l : List Idn.Att) (n : Bs) (v : List Bs) : List Idn.Att × Int :=
 if 32 < (Idn.rSorted (Idn.rWo l n ++ [⟨n, v⟩])).length ∨ 16 < v.length then ([], 3) else (Idn.rSorted (Idn.rWo l n ++ [⟨n, v⟩]), 0)
theorem rWith_eq (l : List Idn.Att) (n : Bs) {v : List Bs} (h : v.Nodup) : rWith l n v = aLim (aSet (Idn.rSorted l) n v) n := by
 unfold rWith aLim
 rw [aSet_get, Idn.insAll_length h, aSet_eq]
def rAdd (l : List Idn.Att) (n : Bs) (v : List Bs) : List Idn.Att × Int :=
 if !Idn.name n then ([], 5) else if v.length = 0 then ([], 6) else if vErr (rGet l n) [] v != 0 then ([], vErr (rGet l n) [] v) else rWith l n (rGet l n ++ v)
def rReplace (l : List Idn.Att) (n : Bs) (v : List Bs) : List Idn.Att × Int :=
 if !Idn.name n then ([], 5) else if Idn.valsErr [] v != 0 then ([], Idn.valsErr [] v) else rWith l n v
def rBad (old : List Bs) : List Bs → List Bs → Bool
 | _, [] => false
 | p, v :: l => (!old.contains v || p.contains v) || rBad old (p ++ [v]) l
def rLeft (old v : List Bs) : List Bs := old.filter fun x => decide (0 < v.length) && !v.contains x
def rRemove (l : List Idn.Att) (n : Bs) (v : List Bs) : List Idn.Att × Int :=
 if !Idn.name n then ([], 5) else if (rGet l n).length = 0 then ([], 6) else if rBad (rGet l n) [] v then ([], 6)
 else (Idn.rSorted (Idn.rWo l n ++ [⟨n, rLeft (rGet l n) v⟩]), 0)
theorem vErr_nd (old : List Bs) : ∀ (l p : List Bs), vErr old p l = 0 → p.Nodup → (∀ x ∈ p, x ∉ old) → (p ++ l).Nodup ∧ ∀ x ∈ p ++ l, x ∉ old
  | [], p, _, h1, h2 => by rw [List.append_nil]; exact ⟨h1, h2⟩
  | v :: l, p, h, h1, h2 => by
    rw [vErr] at h
    split at h
    · cases h
    · split at h
      · cases h
      · rename_i h3
        split at h
        · cases h
        · rename_i h4
          rw [List.contains_iff_mem] at h3 h4
          have := vErr_nd old l (p ++ [v]) h (by rw [List.nodup_append]; exact ⟨h1, by simp, fun a ha b hb e => by simp at hb; subst hb; subst e; exact h4 ha⟩) (fun x hx => by
            rcases List.mem_append.1 hx with hx | hx
            · exact h2 x hx
            · simp at hx; subst hx; exact h3)
          rw [List.append_assoc] at this
          exact this
theorem rGet_nd (l : List Idn.Att) (n : Bs) : (rGet l n).Nodup := by rw [rGet_law]; exact Idn.insAll_nodup _
theorem rAdd_eq (l : List Idn.Att) (n : Bs) (v : List Bs) : rAdd l n v = aAdd l n v := by
 unfold rAdd aAdd
 split
 ·rfl
 ·split
  ·rfl
  ·split
   ·rfl
   ·rename_i h1 h2 h3
    obtain ⟨n1, n2⟩ := vErr_nd (rGet l n) v [] (by simpa using h3) (by simp) (by simp)
    rw [List.nil_append] at n1 n2
    refine rWith_eq l n ?_
    rw [List.nodup_append]
    exact ⟨rGet_nd l n, n1, fun a ha b hb e => n2 b hb (e ▸ ha)⟩
theorem rReplace_eq (l : List Idn.Att) (n : Bs) (v : List Bs) : rReplace l n v = aReplace l n v := by
 unfold rReplace aReplace
 split
 ·rfl
 ·split
  ·rfl
  ·rename_i h1 h2
   have h0 : vErr [] [] v = 0 := by rw [vErr_nil]; simpa using h2
   obtain ⟨n1, _⟩ := vErr_nd [] v [] h0 (by simp) (by simp)
   rw [List.nil_append] at n1
   split
   ·rename_i h3
    unfold rWith
    rw [if_pos (.inr h3)]
   ·exact rWith_eq l n n1
theorem rmK_law (old : List Bs) (hn : old.Nodup) : ∀ (l p : List Bs), rmK (old.filter fun x => !p.contains x) l = if rBad old p l then none else some (old.filter fun x => !(p ++ l).contains x)
  | [], p => by rw [rmK, rBad, List.append_nil]; rfl
  | v :: l, p => by
    rw [rmK, rBad]
    have e1 : (old.filter fun x => !p.contains x).contains v = (old.contains v && !p.contains v) := by
      rw [Bool.eq_iff_iff, List.contains_iff_mem, List.mem_filter, Bool.and_eq_true, List.contains_iff_mem]
    have e2 : (old.filter fun x => !p.contains x).erase v = old.filter fun x => !(p ++ [v]).contains x := by
      rw [List.Nodup.erase_eq_filter (hn.filter _), List.filter_filter]
      refine List.filter_congr fun x _ => ?_
      rw [Bool.eq_iff_iff]
      simp [and_comm, or_comm, bne_iff_ne]
    have e3 : p ++ v :: l = p ++ [v] ++ l := by simp
    rw [e1, e2, e3]
    have ih := rmK_law old hn l (p ++ [v])
    cases old.contains v <;> cases p.contains v
    · rfl
    · rfl
    · exact ih
    · rfl
theorem rRemove_eq (l : List Idn.Att) (n : Bs) (v : List Bs) : rRemove l n v = aRemove l n v := by
 unfold rRemove aRemove
 split
 ·rfl
 ·split
  ·rfl
  ·by_cases hv : v.length = 0
   ·have : v = [] := List.eq_nil_of_length_eq_zero hv
    subst this
    have : rLeft (rGet l n) [] = [] := by unfold rLeft; simp
    rw [show rBad (rGet l n) [] [] = false from rfl, if_neg (by decide), if_pos (show ([] : List Bs).length = 0 from rfl), aSet_eq, this]
   ·rw [if_neg hv]
    have h := rmK_law (rGet l n) (rGet_nd l n) v []
    have e : (rGet l n).filter (fun x => !([] : List Bs).contains x) = rGet l n := by
     rw [List.filter_eq_self]; intro a _; rfl
    rw [e, List.nil_append] at h
    rw [h]
    cases rBad (rGet l n) [] v
    ·rw [if_neg (by decide), if_neg (by decide)]
     dsimp only
     rw [aSet_eq]
     have : rLeft (rGet l n) v = (rGet l n).filter fun x => !v.contains x := by
      unfold rLeft
      rw [decide_eq_true (Nat.pos_of_ne_zero hv)]; rfl
     rw [this]
    ·rfl
end Go.Proofs.YtoopoglkeeoamaaGreatDoor
/- Plain laws: the differences of two entries by the reference are the layer's. -/
namespace Go.Proofs.YtoopoglkeeoamaaGreatDoor
open Go.RowKit Go.Sort
open Idn (L B Bs)
theorem eCheck_zero {n : Bs} {l : List Idn.Att} (h : eCheck n l = 0) : Idn.aCheck l = 0 := by
 unfold eCheck at h
 split at h
 ·cases h
 ·exact h
theorem rSorted_pw (l : List Idn.Att) : ((Idn.rSorted l).map (·.name)).Pairwise (· < ·) := by
 have : (Idn.rSorted l).map (·.name) = Idn.insAll (Idn.lows l) := by
  unfold Idn.rSorted
  rw [List.map_map]
  exact List.map_id' _
 rw [this]
 exact Idn.insAll_lt _
theorem insAll_ne {v : List Bs} (h : v ≠ []) : (Idn.insAll v).length ≠ 0 := by
  intro e
  have e2 := List.eq_nil_of_length_eq_zero e
  cases v with
  | nil => exact h rfl
  | cons x v =>
    have := (Idn.insAll_mem (x :: v) x).2 List.mem_cons_self
    rw [e2] at this; cases this
theorem rSorted_full (l : List Idn.Att) : ∀ a ∈ Idn.rSorted l, a.vals.length ≠ 0 := by
 intro a ha
 unfold Idn.rSorted at ha
 obtain ⟨m, hm, rfl⟩ := List.mem_map.1 ha
 rw [Idn.insAll_mem, Idn.mem_lows] at hm
 exact insAll_ne hm
end Go.Proofs.YtoopoglkeeoamaaGreatDoor
/- Plain law of EntryStable. -/
namespace Go.Proofs.YtoopoglkeeoamaaGreatDoor
open Go.RowKit Go.Sort
open Idn (L B Bs lowA)
theorem sNorm_idem {s : Idn.Sch} {n v a : Bs} (h : sNorm s n v = (a, 0)) : sNorm s n a = (a, 0) := by
 obtain ⟨h1, h2, _⟩ := sNorm_ok h
 exact sNorm_of h1 (normV_idem h2)
def Nor (s : Idn.Sch) (n : Bs) (l : List Bs) : Prop := ∀ x ∈ l, sNorm s n x = (x, 0)
def QN (s : Idn.Sch) (l : List Idn.Att) : Prop := Idn.rSorted l = l ∧ ∀ a ∈ l, Nor s a.name a.vals
theorem Nor.low {s : Idn.Sch} {n : Bs} {l : List Bs} (h : Nor s n l) : Nor s (Idn.lower n) l := fun x hx => by rw [sNorm_low]; exact h x hx
theorem Nor.same {s : Idn.Sch} {n m : Bs} {l : List Bs} (h : Nor s n l) (e : Idn.lower n = Idn.lower m) : Nor s m l := fun x hx => by rw [← sNorm_low, ← e, sNorm_low]; exact h x hx
theorem eValsK_nor (s : Idn.Sch) (n : Bs) : ∀ (l acc : List Bs), Nor s n acc → Nor s n (eValsK s n acc l).1
  | [], _, h => h
  | v :: l, acc, h => by
    rw [eValsK]
    split
    · intro x hx; cases hx
    · rename_i h0
      refine eValsK_nor s n l _ fun x hx => ?_
      rcases List.mem_append.1 hx with hx | hx
      · exact h x hx
      · rw [List.mem_singleton] at hx
        subst hx
        exact sNorm_idem (Prod.ext rfl (by simpa using h0) : sNorm s n v = ((sNorm s n v).1, 0))
theorem nd_dupK : ∀ (l p : List Bs), (p ++ l).Nodup → dupK p l = false
  | [], _, _ => rfl
  | v :: l, p, h => by
    rw [dupK, Bool.or_eq_false_iff]
    refine ⟨?_, nd_dupK l (p ++ [v]) (by rw [List.append_assoc]; exact h)⟩
    rw [List.nodup_append] at h
    rw [Bool.eq_false_iff]
    intro hc
    exact h.2.2 v (List.contains_iff_mem.1 hc) v List.mem_cons_self rfl
theorem eAtt_nor (s : Idn.Sch) (n : Bs) (l : List Bs) : Nor s n (eAtt s n l).1 := by
 unfold eAtt
 split
 ·intro x hx; cases hx
 ·split
  ·intro x hx; cases hx
  ·exact eValsK_nor s n l [] (fun x hx => by cases hx)
theorem eAttsK_nor (s : Idn.Sch) : ∀ (l acc : List Idn.Att), (∀ a ∈ acc, Nor s a.name a.vals) → ∀ a ∈ (eAttsK s acc l).1, Nor s a.name a.vals
  | [], _, h => h
  | b :: l, acc, h => by
    rw [eAttsK]
    split
    · simp
    · refine eAttsK_nor s l _ fun a ha => ?_
      rcases List.mem_append.1 ha with ha | ha
      · exact h a ha
      · rw [List.mem_singleton] at ha
        subst ha
        exact eAtt_nor s b.name b.vals
theorem mem_valsOf {l : List Idn.Att} {n x : Bs} : x ∈ Idn.valsOf l n ↔ ∃ a ∈ l, Idn.lower a.name = n ∧ x ∈ a.vals := by
 unfold Idn.valsOf
 rw [List.mem_flatMap]
 constructor
 ·rintro ⟨a, ha, hx⟩
  rw [List.mem_filter, decide_eq_true_eq] at ha
  exact ⟨a, ha.1, ha.2, hx⟩
 ·rintro ⟨a, h1, h2, hx⟩
  exact ⟨a, List.mem_filter.2 ⟨h1, by rw [decide_eq_true_eq]; exact h2⟩, hx⟩
theorem valsOf_nor {s : Idn.Sch} {l : List Idn.Att} (h : ∀ a ∈ l, Nor s a.name a.vals) (n : Bs) : Nor s n (Idn.valsOf l (Idn.lower n)) := fun x hx => by
 obtain ⟨a, ha, e, hx⟩ := mem_valsOf.1 hx
 exact Nor.same (h a ha) e x hx
theorem rSorted_nor {s : Idn.Sch} {l : List Idn.Att} (h : ∀ a ∈ l, Nor s a.name a.vals) : ∀ a ∈ Idn.rSorted l, Nor s a.name a.vals := by
 intro a ha x hx
 have hl := Idn.rSorted_name ha
 unfold Idn.rSorted at ha
 obtain ⟨m, hm, rfl⟩ := List.mem_map.1 ha
 have hx : x ∈ Idn.insAll (Idn.valsOf l m) := hx
 rw [Idn.insAll_mem] at hx
 have hl : Idn.lower m = m := hl
 rw [← hl] at hx
 exact valsOf_nor h m x hx
theorem rSorted_idem (l : List Idn.Att) : Idn.rSorted (Idn.rSorted l) = Idn.rSorted l := by
 have e1 : Idn.insAll (Idn.lows (Idn.rSorted l)) = Idn.insAll (Idn.lows l) := by
  refine Idn.uniq _ _ (Idn.insAll_lt _) (Idn.insAll_lt _) fun x => ?_
  rw [Idn.insAll_mem]
  have : Idn.lows (Idn.rSorted l) = Idn.insAll (Idn.lows l) := by
   rw [Idn.lows_all (rSorted_full l)]
   have h2 : ∀ a ∈ Idn.rSorted l, Idn.lower a.name = a.name := fun a ha => Idn.rSorted_name ha
   rw [List.map_congr_left h2]
   unfold Idn.rSorted
   rw [List.map_map]
   exact List.map_id' _
  rw [this]
 have e2 : ∀ n ∈ Idn.insAll (Idn.lows l), Idn.rOne (Idn.rSorted l) n = Idn.rOne l n := fun n hn => by
  have hn : Idn.lower n = n := by
   rw [Idn.insAll_mem] at hn
   unfold Idn.lows at hn
   obtain ⟨b, _, rfl⟩ := List.mem_map.1 hn
   exact Idn.lower_lower _
  have h := valsOf_sorted l n
  rw [hn] at h
  unfold Idn.rOne
  rw [h, insAll_idem]
 rw [show Idn.rSorted (Idn.rSorted l) = (Idn.insAll (Idn.lows (Idn.rSorted l))).map (Idn.rOne (Idn.rSorted l)) from rfl, e1, List.map_congr_left e2]
 rfl
theorem QN.sorted {s : Idn.Sch} {l : List Idn.Att} (h : ∀ a ∈ l, Nor s a.name a.vals) : QN s (Idn.rSorted l) := ⟨rSorted_idem l, rSorted_nor h⟩
theorem QN.full {s : Idn.Sch} {l : List Idn.Att} (h : QN s l) : ∀ a ∈ l, a.vals.length ≠ 0 := fun a ha => rSorted_full l a (h.1.symm ▸ ha)
theorem QN.name {s : Idn.Sch} {l : List Idn.Att} (h : QN s l) : ∀ a ∈ l, Idn.lower a.name = a.name := fun a ha => Idn.rSorted_name (l := l) (h.1.symm ▸ ha)
theorem QN.nd {s : Idn.Sch} {l : List Idn.Att} (h : QN s l) : ∀ a ∈ l, a.vals.Nodup := fun a ha => by
 have ha : a ∈ Idn.rSorted l := h.1.symm ▸ ha
 unfold Idn.rSorted at ha
 obtain ⟨m, _, rfl⟩ := List.mem_map.1 ha
 exact Idn.insAll_nodup _
theorem eValsK_id {s : Idn.Sch} {n : Bs} : ∀ (l acc : List Bs), Nor s n l → eValsK s n acc l = (acc ++ l, 0)
  | [], acc, _ => by rw [eValsK, List.append_nil]
  | v :: l, acc, h => by
    have h1 := h v List.mem_cons_self
    rw [eValsK, h1, if_neg (by simp), eValsK_id l _ fun x hx => h x (List.mem_cons_of_mem _ hx), List.append_assoc]; rfl
theorem eAtt_id {s : Idn.Sch} {n : Bs} {l : List Bs} (h : Nor s n l) (hn : l.Nodup) : eAtt s n l = (l, 0) := by
 have e : eVals s n l = (l, 0) := by unfold eVals; rw [eValsK_id l [] h]; rfl
 unfold eAtt
 rw [e, if_neg (by simp), nd_dupK l [] hn, if_neg (by decide)]
theorem eAttsK_id {s : Idn.Sch} : ∀ (l acc : List Idn.Att), (∀ a ∈ l, Nor s a.name a.vals ∧ a.vals.Nodup) → eAttsK s acc l = (acc ++ l, 0)
  | [], acc, _ => by rw [eAttsK, List.append_nil]
  | a :: l, acc, h => by
    obtain ⟨h1, h2⟩ := h a List.mem_cons_self
    rw [eAttsK, eAtt_id h1 h2, if_neg (by simp), eAttsK_id l _ fun x hx => h x (List.mem_cons_of_mem _ hx), List.append_assoc]; rfl
theorem sValid_check {s : Idn.Sch} {l : List Idn.Att} (h : sValid s l = 0) : Idn.aCheck l = 0 := by
 unfold sValid at h
 split at h
 ·rename_i hn; simp [h] at hn
 ·rename_i hn; simpa using hn
theorem byLow_id {s : Idn.Sch} {l : List Idn.Att} (h : QN s l) : byLow l = l := by
 unfold byLow
 refine List.mergeSort_of_pairwise ?_
 have hp := rSorted_pw l
 rw [h.1, List.pairwise_map] at hp
 have hn := h.name
 rw [List.pairwise_iff_forall_sublist] at hp ⊢
 intro a b hab
 have ha : a ∈ l := hab.subset (by simp)
 have hb : b ∈ l := hab.subset (by simp)
 unfold leLow
 rw [decide_eq_true_eq, hn a ha, hn b hb]
 exact List.le_of_lt (hp hab)
theorem nf_of {s : Idn.Sch} {n : Bs} {l : List Idn.Att} (hn : Idn.cleanN n = (n, 0)) (hne : n ≠ []) (hq : QN s l) (hv : sValid s l = 0) : eNormal s n l = ((n, l), 0) := by
 unfold eNormal
 rw [hn, if_neg (by simp [hne]), sValid_check hv, if_neg (by decide), byLow_id hq, eAttsK_id l [] (fun a ha => ⟨hq.2 a ha, hq.nd a ha⟩), if_neg (by simp)]
 dsimp only [List.nil_append]
 rw [← Idn.rSorted_eq hq.full, hq.1]
 unfold eOut
 rw [hv]; rfl
theorem nf_parts {s : Idn.Sch} {n : Bs} {l : List Idn.Att} {x : En} (h : eNormal s n l = (x, 0)) : Idn.cleanN x.1 = (x.1, 0) ∧ x.1 ≠ [] ∧ QN s x.2 ∧ sValid s x.2 = 0 := by
 unfold eNormal at h
 split at h
 ·simp at h
 ·rename_i h1
  rw [Bool.or_eq_true, not_or] at h1
  split at h
  ·rename_i h2; simp only [Prod.mk.injEq] at h; simp [h.2] at h2
  ·rename_i h2
   have h0 : Idn.aCheck l = 0 := by simpa using h2
   have h4 := fun a ha => ((aCheck_zero h0).2 a ha).1
   split at h
   ·rename_i h3; simp only [Prod.mk.injEq] at h; simp [h.2] at h3
   ·unfold eOut at h
    split at h
    ·rename_i h3; simp only [Prod.mk.injEq] at h; simp [h.2] at h3
    ·rename_i h3
     simp only [Prod.mk.injEq, and_true] at h
     subst h
     dsimp only
     have hc : Idn.cleanN n = ((Idn.cleanN n).1, 0) := Prod.ext rfl (by simpa using h1.1)
     obtain ⟨_, _, _, _, hcl, _⟩ := Idn.clean_form hc
     refine ⟨hcl, by simpa using h1.2, ?_, by simpa using h3⟩
     rw [← Idn.rSorted_eq (eAttsK_full s (byLow l) [] (by simp) (byLow_full h4))]
     exact QN.sorted (eAttsK_nor s (byLow l) [] (by simp))
theorem rGet_nor {s : Idn.Sch} {l : List Idn.Att} (h : QN s l) (n : Bs) : Nor s n (rGet l n) := by
 rw [rGet_law]
 intro x hx
 rw [Idn.insAll_mem] at hx
 exact valsOf_nor h.2 n x hx
theorem QN.set {s : Idn.Sch} {l : List Idn.Att} (h : QN s l) {n : Bs} {v : List Bs} (hv : Nor s n v) : QN s (aSet (Idn.rSorted l) n v) := by
 unfold aSet
 refine QN.sorted fun a ha => ?_
 rcases List.mem_append.1 ha with ha | ha
 ·have := (List.mem_filter.1 ha).1
  rw [h.1] at this
  exact h.2 a this
 ·rw [List.mem_singleton] at ha
  subst ha
  exact hv.low
theorem QN.lim {s : Idn.Sch} {l : List Idn.Att} (h : QN s l) (n : Bs) {r : List Idn.Att} (hr : aLim l n = (r, 0)) : QN s r := by
 unfold aLim at hr
 split at hr
 ·simp at hr
 ·simp only [Prod.mk.injEq, and_true] at hr
  subst hr; exact h
theorem rmK_sub : ∀ (v old o : List Bs), rmK old v = some o → ∀ x ∈ o, x ∈ old
  | [], old, o, h, x, hx => by rw [rmK] at h; injection h with h; subst h; exact hx
  | y :: v, old, o, h, x, hx => by
    rw [rmK] at h
    split at h
    · exact List.mem_of_mem_erase (rmK_sub v _ o h x hx)
    · cases h
theorem eMod_q {s : Idn.Sch} {l : List Idn.Att} {m : Md} {r : List Idn.Att} (h : QN s l) (hr : eMod s l m = (r, 0)) : QN s r := by
 have hv := eAtt_nor s m.name m.vals
 unfold eMod at hr
 split at hr
 ·simp at hr
 ·split at hr
  ·simp at hr
  ·split at hr
   ·rename_i h1; simp only [Prod.mk.injEq] at hr; simp [hr.2] at h1
   ·generalize (eAtt s m.name m.vals).1 = v at *
    split at hr
    ·unfold aRemove at hr
     split at hr
     ·simp at hr
     ·split at hr
      ·simp at hr
      ·split at hr
       ·simp only [Prod.mk.injEq, and_true] at hr
        subst hr
        exact h.set fun x hx => by cases hx
       ·split at hr
        ·simp at hr
        ·rename_i o ho
         simp only [Prod.mk.injEq, and_true] at hr
         subst hr
         exact h.set fun x hx => rGet_nor h m.name x (rmK_sub _ _ _ ho x hx)
    ·split at hr
     ·split at hr
      ·unfold aAdd at hr
       split at hr
       ·simp at hr
       ·split at hr
        ·simp at hr
        ·split at hr
         ·rename_i h1; simp only [Prod.mk.injEq] at hr; simp [hr.2] at h1
         ·refine QN.lim (h.set fun x hx => ?_) _ hr
          rcases List.mem_append.1 hx with hx | hx
          ·exact rGet_nor h m.name x hx
          ·exact hv x hx
      ·simp at hr
     ·unfold aReplace at hr
      split at hr
      ·simp at hr
      ·split at hr
       ·rename_i h1; simp only [Prod.mk.injEq] at hr; simp [hr.2] at h1
       ·split at hr
        ·simp at hr
        ·exact QN.lim (h.set hv) _ hr
theorem eModsK_q {s : Idn.Sch} : ∀ (ms : List Md) (l r : List Idn.Att), QN s l → eModsK s l ms = (r, 0) → QN s r
  | [], l, r, h, hr => by rw [eModsK] at hr; simp only [Prod.mk.injEq, and_true] at hr; subst hr; exact h
  | m :: ms, l, r, h, hr => by
    rw [eModsK] at hr
    split at hr
    · rename_i h1; simp only [Prod.mk.injEq] at hr; simp [hr.2] at h1
    · rename_i h1
      exact eModsK_q ms _ r (eMod_q h (Prod.ext rfl (by simpa using h1) : eMod s l m = ((eMod s l m).1, 0))) hr
theorem sameV_eq {a b : List Idn.Att} (h : sameV a b = true) : a = b := by
 unfold sameV at h
 rw [decide_eq_true_eq] at h
 have hi : ∀ x y : Idn.Att, (x.name, x.vals) = (y.name, y.vals) → x = y := fun x y e => by
  cases x; cases y; simp only [Prod.mk.injEq] at e; rw [e.1, e.2]
 exact List.map_inj_right hi |>.1 h
theorem sameV_refl (a : List Idn.Att) : sameV a a = true := by unfold sameV; simp
theorem apply_nf {s : Idn.Sch} {n : Bs} {l : List Idn.Att} {ms : List Md} {x : En} (h : eApply s n l ms = (x, 0)) : eNormal s x.1 x.2 = (x, 0) ∧ x.1 = n := by
 unfold eApply at h
 split at h
 ·simp at h
 ·rename_i h1
  rw [Bool.or_eq_true, Bool.or_eq_true, not_or, not_or] at h1
  have e1 : (eNormal s n l).1.1 = n := by simpa using h1.2.1
  have e2 : (eNormal s n l).1.2 = l := sameV_eq (by simpa using h1.2.2)
  have e3 : eNormal s n l = ((n, l), 0) := Prod.ext (Prod.ext e1 e2) (by simpa using h1.1)
  obtain ⟨p1, p2, p3, p4⟩ := nf_parts e3
  split at h
  ·simp at h
  ·split at h
   ·rename_i h2; simp only [Prod.mk.injEq] at h; simp [h.2] at h2
   ·rename_i h2
    have hq := eModsK_q ms l _ p3 (Prod.ext rfl (by simpa using h2) : eModsK s l ms = ((eModsK s l ms).1, 0))
    unfold eOut at h
    split at h
    ·rename_i h3; simp only [Prod.mk.injEq] at h; simp [h.2] at h3
    ·rename_i h3
     simp only [Prod.mk.injEq, and_true] at h
     subst h
     exact ⟨nf_of p1 p2 hq (by simpa using h3), rfl⟩
theorem apply_err {s : Idn.Sch} {n : Bs} {l : List Idn.Att} {ms : List Md} (h : (eApply s n l ms).2 ≠ 0) : (eApply s n l ms).1 = ([], []) := by
 unfold eApply at h ⊢
 split
 ·rfl
 ·rename_i h1
  rw [if_neg h1] at h
  split
  ·rfl
  ·rename_i h2
   rw [if_neg h2] at h
   split
   ·rfl
   ·rename_i h3
    rw [if_neg h3] at h
    unfold eOut at h ⊢
    split
    ·rfl
    ·rename_i h4
     rw [if_neg h4] at h
     exact absurd rfl h
end Go.Proofs.YtoopoglkeeoamaaGreatDoor
/- Plain law of EntryTurns. -/
namespace Go.Proofs.YtoopoglkeeoamaaGreatDoor
open Go.RowKit Go.Sort
open Idn (L B Bs lowA)
theorem valsOf_filter (S : List Idn.Att) (n m : Bs) (hS : ∀ a ∈ S, Idn.lower a.name = a.name) (h : Idn.lower m ≠ Idn.lower n) : Idn.valsOf (S.filter fun a => !decide (a.name = Idn.lower n)) (Idn.lower m) = Idn.valsOf S (Idn.lower m) := by
 unfold Idn.valsOf
 rw [List.filter_filter]
 congr 1
 refine List.filter_congr fun a ha => ?_
 by_cases e : Idn.lower a.name = Idn.lower m
 ·rw [decide_eq_true e, Bool.true_and]
  have : a.name ≠ Idn.lower n := fun e2 => h (by rw [← e, hS a ha, e2])
  simpa using this
 ·rw [decide_eq_false e, Bool.false_and]
theorem set_get (S : List Idn.Att) (n : Bs) (v : List Bs) (m : Bs) : rGet (aSet (Idn.rSorted S) n v) m = if Idn.lower m = Idn.lower n then Idn.insAll v else rGet S m := by
 by_cases e : Idn.lower m = Idn.lower n
 ·rw [if_pos e]
  have h := aSet_get S n v
  rw [rGet_law] at h ⊢
  rw [e]; exact h
 ·rw [if_neg e]
  unfold aSet
  rw [rGet_sorted, rGet_law, Idn.valsOf_app, valsOf_filter _ _ _ (fun a ha => Idn.rSorted_name ha) e, valsOf_sorted]
  have : Idn.valsOf [⟨Idn.lower n, v⟩] (Idn.lower m) = [] := by
   unfold Idn.valsOf
   have : Idn.lower n ≠ Idn.lower m := fun e2 => e e2.symm
   simp [Idn.lower_lower, this]
  rw [this, List.append_nil, insAll_idem, rGet_law]
theorem rSorted_ext {S T : List Idn.Att} (h : ∀ m, rGet S m = rGet T m) : Idn.rSorted S = Idn.rSorted T := by
 have hv : ∀ m, Idn.lower m = m → Idn.insAll (Idn.valsOf S m) = Idn.insAll (Idn.valsOf T m) := fun m hm => by
  have := h m
  rw [rGet_law, rGet_law, hm] at this
  exact this
 have low : ∀ (l : List Idn.Att) m, m ∈ Idn.lows l → Idn.lower m = m := fun l m hm => by
  unfold Idn.lows at hm
  obtain ⟨a, _, rfl⟩ := List.mem_map.1 hm
  exact Idn.lower_lower _
 have ne : ∀ v : List Bs, v ≠ [] ↔ Idn.insAll v ≠ [] := fun v => by
  constructor
  ·intro h e; exact insAll_ne h (by rw [e]; rfl)
  ·intro h e; exact h (by rw [e]; rfl)
 have hmem : ∀ m, m ∈ Idn.lows S ↔ m ∈ Idn.lows T := fun m => by
  constructor
  ·intro hm
   have hl := low S m hm
   rw [Idn.mem_lows, ne, ← hv m hl, ← ne, ← Idn.mem_lows]; exact hm
  ·intro hm
   have hl := low T m hm
   rw [Idn.mem_lows, ne, hv m hl, ← ne, ← Idn.mem_lows]; exact hm
 have e1 : Idn.insAll (Idn.lows S) = Idn.insAll (Idn.lows T) := Idn.uniq _ _ (Idn.insAll_lt _) (Idn.insAll_lt _) fun x => by rw [Idn.insAll_mem, Idn.insAll_mem]; exact hmem x
 unfold Idn.rSorted
 rw [e1]
 refine List.map_congr_left fun m hm => ?_
 rw [Idn.insAll_mem] at hm
 unfold Idn.rOne
 rw [hv m (low T m hm)]
theorem QN.ext {s : Idn.Sch} {S T : List Idn.Att} (h1 : QN s S) (h2 : QN s T) (h : ∀ m, rGet S m = rGet T m) : S = T := by
 rw [← h1.1, ← h2.1]; exact rSorted_ext h
structure Val (s : Idn.Sch) (n : Bs) (v : List Bs) : Prop where
 nor : Nor s n v
 cln : ∀ x ∈ v, Idn.clean x = true
 srt : v.Pairwise (· < ·)
 len : v.length ≤ 16
theorem Val.nd {s : Idn.Sch} {n : Bs} {v : List Bs} (h : Val s n v) : v.Nodup := h.srt.imp fun h e => by subst e; exact List.lt_irrefl _ h
structure Turned (s : Idn.Sch) (S : List Idn.Att) (n : Bs) (v : List Bs) (S' : List Idn.Att) : Prop where
 q : QN s S'
 g : ∀ m, Idn.lower m = m → rGet S' m = if m = n then v else rGet S m
theorem Turned.trans {s : Idn.Sch} {S S' S'' : List Idn.Att} {n : Bs} {v v' : List Bs} (h : Turned s S n v S') (h' : Turned s S' n v' S'') : Turned s S n v' S'' :=
 ⟨h'.q, fun m hm => by
  rw [h'.g m hm]
  split
  ·rfl
  ·rename_i e; rw [h.g m hm, if_neg e]⟩
section
variable {s : Idn.Sch} {S : List Idn.Att} {n : Bs} {old new : List Bs}
end
end Go.Proofs.YtoopoglkeeoamaaGreatDoor
/- The values of the small case of identitylaw08, reckoned. -/
namespace Go.Proofs.YtoopoglkeeoamaaGreatDoor
open Go.RowKit Go.Sort
open Idn (L B Bs)
namespace E8
def personN : Bs := [112, 101, 114, 115, 111, 110]
def cnN : Bs := [99, 110]
def snN : Bs := [115, 110]
def numN : Bs := [110, 117, 109]
def smallS : Idn.Sch := ⟨[⟨Idn.mainN, 1, false⟩, ⟨cnN, 1, false⟩, ⟨snN, 1, false⟩, ⟨numN, 3, false⟩], [⟨personN, [], [Idn.mainN, cnN], [snN, numN]⟩]⟩
def annN : Bs := [99, 110, 61, 97, 110, 110]
def CNN : Bs := [67, 78, 61, 65, 110, 110]
def ClassN : Bs := [67, 108, 97, 115, 115]
def rawL : List Idn.Att := [⟨ClassN, [personN]⟩, ⟨cnN, [[65, 110, 110]]⟩, ⟨numN, [[55]]⟩]
def midL : List Idn.Att := [⟨ClassN, [personN]⟩, ⟨cnN, [[97, 110, 110]]⟩, ⟨numN, [[55]]⟩]
def norL : List Idn.Att := [⟨Idn.mainN, [personN]⟩, ⟨cnN, [[97, 110, 110]]⟩, ⟨numN, [[55]]⟩]
def bobL : List Idn.Att := [⟨Idn.mainN, [personN]⟩, ⟨cnN, [[98, 111, 98]]⟩, ⟨numN, [[55]]⟩]
def snL : List Idn.Att := [⟨snN, [[97, 32, 98]]⟩]
def oneL : List Idn.Att := [⟨numN, [[49], [50]]⟩]
def twoL : List Idn.Att := [⟨numN, [[50], [51]]⟩]
def textB : Bs := [101, 110, 116, 114, 121, 32, 99, 110, 37, 51, 68, 97, 110, 110, 10, 115, 110, 32, 97, 37, 50, 48, 98, 10]
theorem ev_check : Idn.sCheck smallS = 0 := by kernel_rfl
theorem ev_sound : sound smallS = smallS := by rw [sound, if_pos ev_check]
theorem small_ssm : SSm smallS := by unfold SSm TSm CSm Sm smallS; decide
theorem ev_c1 : eCheck annN [] = 0 := by kernel_rfl
theorem ev_c2 : eCheck [] [] = 5 := by kernel_rfl
theorem ev_c3 : eCheck annN snL = 0 := by kernel_rfl
theorem ev_c4 : eCheck annN oneL = 0 := by kernel_rfl
theorem ev_c5 : eCheck annN twoL = 0 := by kernel_rfl
theorem sn_srt : Idn.aSorted snL = snL := by
 have h : (Idn.grp [] snL).map Idn.normA = snL := by kernel_rfl
 unfold Idn.aSorted
 rw [h]; simp [List.mergeSort, snL]
theorem ev_text : eText annN snL = (textB, 0) := by
 unfold eText
 rw [ev_c3, if_neg (by decide), sn_srt]
 kernel_rfl
theorem srt12 (a b : Bs) (h : decide (a ≤ b) = true) : Idn.srt [a, b] = [a, b] := by
 unfold Idn.srt
 simp [List.mergeSort, List.MergeSort.Internal.splitInTwo, List.merge, h, -decide_eq_true_eq]
theorem one_srt : Idn.aSorted oneL = oneL := by
 have h : (Idn.grp [] oneL).map Idn.normA = [⟨numN, Lib.compact (Idn.srt [[49], [50]])⟩] := by kernel_rfl
 unfold Idn.aSorted
 rw [h, srt12 _ _ (by decide)]
 have h2 : Lib.compact ([[49], [50]] : List Bs) = [[49], [50]] := by kernel_rfl
 rw [h2]; simp [List.mergeSort, oneL]
theorem two_srt : Idn.aSorted twoL = twoL := by
 have h : (Idn.grp [] twoL).map Idn.normA = [⟨numN, Lib.compact (Idn.srt [[50], [51]])⟩] := by kernel_rfl
 unfold Idn.aSorted
 rw [h, srt12 _ _ (by decide)]
 have h2 : Lib.compact ([[50], [51]] : List Bs) = [[50], [51]] := by kernel_rfl
 rw [h2]; simp [List.mergeSort, twoL]
theorem ev_diff : eDiff annN oneL annN twoL = [⟨2, numN, [[49]]⟩, ⟨1, numN, [[51]]⟩] := by
 unfold eDiff
 rw [ev_c4, ev_c5, if_neg (by decide)]
 have n1 : namesL oneL = [numN] := by unfold namesL; rw [one_srt]; rfl
 have n2 : namesL twoL = [numN] := by unfold namesL; rw [two_srt]; rfl
 have g1 : getL oneL numN = [[49], [50]] := by unfold getL; rw [one_srt]; kernel_rfl
 have g2 : getL twoL numN = [[50], [51]] := by unfold getL; rw [two_srt]; kernel_rfl
 rw [n1, n2]
 show (Lib.compact (Idn.srt [numN, numN])).flatMap _ = _
 rw [srt12 _ _ (by decide)]
 have h2 : Lib.compact [numN, numN] = [numN] := by kernel_rfl
 rw [h2]
 show difs numN (getL oneL numN) (getL twoL numN) ++ [] = _
 rw [g1, g2]
 kernel_rfl
theorem mrg3 {a b c : Idn.Att} {le : Idn.Att → Idn.Att → Bool} (h1 : le a b = true) (h2 : le b c = true) (h3 : le a c = true) : [a, b, c].mergeSort le = [a, b, c] := by
 simp [List.mergeSort, List.MergeSort.Internal.splitInTwo, List.merge, h1, h2, h3]
theorem raw_low : byLow rawL = rawL := by unfold byLow rawL; exact mrg3 (by decide) (by decide) (by decide)
theorem nor_low : byLow norL = norL := by unfold byLow norL; exact mrg3 (by decide) (by decide) (by decide)
theorem mid_srt : Idn.aSorted midL = norL := by
 have h : (Idn.grp [] midL).map Idn.normA = norL := by kernel_rfl
 unfold Idn.aSorted
 rw [h]; unfold norL; exact mrg3 (by decide) (by decide) (by decide)
theorem nor_srt : Idn.aSorted norL = norL := by
 have h : (Idn.grp [] norL).map Idn.normA = norL := by kernel_rfl
 unfold Idn.aSorted
 rw [h]; unfold norL; exact mrg3 (by decide) (by decide) (by decide)
theorem bob_srt : Idn.aSorted bobL = bobL := by
 have h : (Idn.grp [] bobL).map Idn.normA = bobL := by kernel_rfl
 unfold Idn.aSorted
 rw [h]; unfold bobL; exact mrg3 (by decide) (by decide) (by decide)
theorem cmpM : Lib.compact [Idn.mainN, cnN] = [Idn.mainN, cnN] := by kernel_rfl
theorem cmp4 : Lib.compact [Idn.mainN, cnN, numN, snN] = [Idn.mainN, cnN, numN, snN] := by kernel_rfl
theorem ev_must : mustL smallS personN = [Idn.mainN, cnN] := by
 have h : (((Idn.lin smallS personN).filterMap (smallS.classes[·]?)).flatMap (·.must)).map Idn.lower = [Idn.mainN, cnN] := by kernel_rfl
 unfold mustL merged
 rw [h]
 have e : sorted [Idn.mainN, cnN] = [Idn.mainN, cnN] := srt12 _ _ (by decide)
 rw [e, cmpM]
theorem srt4 : sorted [Idn.mainN, cnN, snN, numN] = [Idn.mainN, cnN, numN, snN] := by
 unfold sorted
 have e1 : decide (Idn.mainN ≤ cnN) = true := by decide
 have e2 : decide (snN ≤ numN) = false := by decide
 have e3 : decide (Idn.mainN ≤ numN) = true := by decide
 have e4 : decide (cnN ≤ numN) = true := by decide
 simp [List.mergeSort, List.MergeSort.Internal.splitInTwo, List.merge, e1, e2, e3, e4, -decide_eq_true_eq, -decide_eq_false_iff_not]
theorem ev_may : mayL smallS personN = [Idn.mainN, cnN, numN, snN] := by
 have h : (mustL smallS personN ++ ((Idn.lin smallS personN).filterMap (smallS.classes[·]?)).flatMap (·.may)).map Idn.lower = [Idn.mainN, cnN, snN, numN] := by
  rw [ev_must]; kernel_rfl
 unfold mayL merged
 rw [h, srt4, cmp4]
theorem ev_cl : classedB smallS [Idn.mainN, cnN, numN] [personN] = true := by
 have h0 : Idn.fold personN = personN := by kernel_rfl
 have h1 : clKey smallS personN = true := by kernel_rfl
 unfold classedB clsGo clsGo
 rw [h0, h1, ev_must, ev_may]
 decide
theorem ev_v1 : sValid smallS norL = 0 := by
 have a : Idn.aCheck norL = 0 := by kernel_rfl
 have g : vGo smallS norL = 0 := by kernel_rfl
 have n : namesL norL = [Idn.mainN, cnN, numN] := by unfold namesL; rw [nor_srt]; rfl
 have c : getL norL Idn.mainN = [personN] := by unfold getL; rw [nor_srt]; kernel_rfl
 unfold sValid
 rw [a, ev_sound, g, n, c, ev_cl]
 rfl
theorem ev_v2 : sValid smallS bobL = 0 := by
 have a : Idn.aCheck bobL = 0 := by kernel_rfl
 have g : vGo smallS bobL = 0 := by kernel_rfl
 have n : namesL bobL = [Idn.mainN, cnN, numN] := by unfold namesL; rw [bob_srt]; rfl
 have c : getL bobL Idn.mainN = [personN] := by unfold getL; rw [bob_srt]; kernel_rfl
 unfold sValid
 rw [a, ev_sound, g, n, c, ev_cl]
 rfl
theorem ev_raw : eAttsK smallS [] rawL = (midL, 0) := by
 unfold eAttsK eAtt eVals eValsK sNorm
 rw [ev_sound]
 kernel_rfl
theorem ev_nor : eAttsK smallS [] norL = (norL, 0) := by
 unfold eAttsK eAtt eVals eValsK sNorm
 rw [ev_sound]
 kernel_rfl
theorem ev_n1 : eNormal smallS CNN rawL = ((annN, norL), 0) := by
 have c : Idn.cleanN CNN = (annN, 0) := by kernel_rfl
 have a : Idn.aCheck rawL = 0 := by kernel_rfl
 unfold eNormal eOut
 rw [c, a, raw_low, ev_raw, mid_srt, ev_v1]
 rfl
theorem ev_n2 : eNormal smallS annN norL = ((annN, norL), 0) := by
 have c : Idn.cleanN annN = (annN, 0) := by kernel_rfl
 have a : Idn.aCheck norL = 0 := by kernel_rfl
 unfold eNormal eOut
 rw [c, a, nor_low, ev_nor, nor_srt, ev_v1]
 rfl
theorem ev_mod : eMod smallS norL ⟨3, cnN, [[66, 111, 98]]⟩ = (bobL, 0) := by
 unfold eMod eAtt eVals eValsK sNorm
 rw [ev_sound]
 kernel_rfl
theorem ev_apply : eApply smallS annN norL [⟨3, cnN, [[66, 111, 98]]⟩] = ((annN, bobL), 0) := by
 have h1 : eModsK smallS norL [⟨3, cnN, [[66, 111, 98]]⟩] = (bobL, 0) := by
  unfold eModsK
  rw [ev_mod]; rfl
 have h2 : eOut smallS annN bobL = ((annN, bobL), 0) := by unfold eOut; rw [ev_v2]; rfl
 unfold eApply
 rw [ev_n2, h1]
 show (if _ then _ else if _ then _ else if _ then _ else eOut smallS annN bobL) = _
 rw [h2]
 kernel_rfl
end E8
end Go.Proofs.YtoopoglkeeoamaaGreatDoor
/- attrs: Sorted, at attributes that may have no values. -/
namespace Go.Proofs.YtoopoglkeeoamaaGreatDoor
open Go.RowKit Go.Sort
open Idn (L B Bs drop_L take_L size_L)
theorem sorted2_pred (g : Nat) (w : World) : PredG g 83 #[] (fun x => ((x.2 : Nat) : Int) == 0) w := fun W x A c _ => sorted2_any x.1 A x.2 c W
theorem full_map (ps : List (Idn.Att × Value)) : (ps.filter fun q => !((((nmA q).2 : Nat) : Int) == 0)).map (·.1) = (ps.map (·.1)).filter Idn.full := by
 rw [List.filter_map]
 congr 1
 refine List.filter_congr fun q _ => ?_
 show (!((q.1.vals.length : Int) == 0)) = decide (q.1.vals.length ≠ 0)
 by_cases h : q.1.vals.length = 0
 ·rw [h]; rfl
 ·rw [decide_eq_true h]
  have : ((q.1.vals.length : Int) == 0) = false := by rw [beq_eq_false_iff_ne]; omega
  rw [this]; rfl
theorem sortedG_any (v : Value) (l : List Idn.Att) (w : World) (hv : AttsV w w.heap.size v l) (hs : Idn.ASm7 l) :
    Calls Tryz.prog 35 #[v] w fun e w' => ∃ v' ps, e = .returned v' ∧ AttOwn w' w.heap.size v' ps ∧ ps.map (·.1) = Idn.rSorted l ∧ Below w.heap.size w w' := by
  obtain ⟨A, c, rfl, hc⟩ := SlV.shape hv
  have hl1 := hs.1
  go_enter Tryz.func35, Tryz.ntmps35
  go_upto_block 0 with fail
  go_cut [3] (fun u wx => ∃ ps, AttOwn wx w.heap.size u ps ∧ Below w.heap.size w wx ∧ Hid (ps.map (·.1) = Idn.grp [] l) ∧ ps.length ≤ 1000 ∧ ∀ p ∈ ps, p.1.vals.length ≤ 1000000000)
  case first =>
    go_wp2_with fail
    go_loopw [3, 11] (fun u i wr => ∃ (k : Nat) (ps : List (Idn.Att × Value)), k ≤ l.length ∧ i = .int .i64 k ∧ AttOwn wr w.heap.size u ps ∧ Below w.heap.size w wr ∧ Hid (Idn.grp (ps.map (·.1)) (l.drop k) = Idn.grp [] l) ∧ ps.length ≤ k ∧ ∀ p ∈ ps, p.1.vals.length ≤ k * 1100000) (fun _ i _ => l.length - (intOf i).toNat)
    case atStart => exact ⟨0, [], Nat.zero_le _, rfl, AttOwn.nil _ _, Below.refl _ _, rfl, Nat.le_refl _, by simp⟩
    case round =>
      obtain ⟨k, ps, hk, rfl, hown, hb, hinv, hpl, hpv⟩ := hrel
      by_cases hlt : k < l.length
      · obtain ⟨b, off, va, rfl, hbl, c0, c1, hva⟩ := AttsV.cell hv hlt
        obtain ⟨Av, cv, rfl, hcv⟩ := SlV.shape hva
        replace c0 := (hb.cell (p := ⟨b, off + k * 2, none⟩) hbl).trans c0
        replace c1 := (hb.cell (p := ⟨b, off + k * 2 + 1, none⟩) hbl).trans c1
        have hltI : (k : Int) < (l.length : Int) := by omega
        obtain ⟨hn9, hv9, _⟩ := hs.2 l[k] (List.getElem_mem hlt)
        have hL := fun W => lower_any (B l[k].name) W (by rw [Idn.size_B]; omega)
        rw [Idn.L_B] at hL
        have hstep := Idn.grp_step l k hlt (ps.map (·.1))
        generalize Idn.lower l[k].name = nm at *
        obtain ⟨wo, hwo⟩ : ∃ wo : World, wo = wr := ⟨_, rfl⟩
        subst hwo
        go_wp2_with fail
        with_reducible refine gen1 (R := fun W => Calls Tryz.prog 49 _ W _) ?_
        intro W hbW hszW hc1 _
        have d0 : W.cell? ⟨wo.heap.size, 0, none⟩ = some (.string (B l[k].name)) := hc1 0 _ rfl
        have d1 : W.cell? ⟨wo.heap.size, 1, none⟩ = some (.slice Av l[k].vals.length cv) := hc1 1 _ rfl
        clear hc1 hszW c0 c1
        refine (hL W).mono ?_
        rintro e w1 ⟨rfl, hb1⟩
        clear hL
        have hbo1 := hbW.trans (hb1.mono hbW.size)
        replace d1 := cell_later hb1 d1
        have hown1 := hown.keep hbo1
        have hlo := fun g => own_lt hown.1 (g := g)
        clear hown d0
        obtain ⟨Au, cu, hu⟩ := own_shape hown1.1
        rw [hu] at hlo
        subst hu
        go_wp2_with fail
        with_reducible refine gen1 (R := fun W => Calls Tryz.prog 80 _ W _) ?_
        intro W2 hbW2 hszW2 hc2 _
        have q0 : W2.cell? ⟨w1.heap.size, 0, none⟩ = some (.string (B nm)) := hc2 0 _ rfl
        clear hc2
        have hI := idxA_any 81 #[.pointer (some ⟨w1.heap.size, 0, none⟩)] fn_sorted1 _ _ _ W2 (hown1.keep hbW2).names (by rw [List.length_map]; omega) (sorted1_any.pred w1.heap.size (B nm) _ W2 q0)
        rw [Idn.L_B] at hI
        have hix : idxP (fun x : Bs × Nat => decide (x.1 = nm)) (ps.map fun p => (p.1.name, p.1.vals.length)) = idxP (fun a : Idn.Att => decide (a.name = nm)) (ps.map (·.1)) := by unfold idxP; rw [ixAdd]
        rw [hix] at hI
        clear hix
        refine hI.mono ?_
        rintro e w2 ⟨rfl, hb2⟩
        have hb12 := hbW2.trans (hb2.mono hbW2.size)
        have hown2 := hown1.keep hb12
        have q2 := cell_later hb2 q0
        have d2 := cell_later hb12 d1
        have hbo2 := hbo1.trans (hb12.mono hbo1.size)
        have hbw2 := hb.trans (hbo2.mono hb.size)
        clear hI hown1 d1 q0 hszW2
        go_upto_if 22 with fail
        go_cut [3, 7] (fun u i wx => ∃ (qs : List (Idn.Att × Value)) (j : Nat) (p : Idn.Att × Value), i = .int .i64 j ∧ AttOwn wx w.heap.size u qs ∧ qs[j]? = some p ∧ Hid ((qs.map (·.1)).set j ⟨p.1.name, p.1.vals ++ l[k].vals⟩ = Idn.addA (ps.map (·.1)) nm l[k].vals) ∧ qs.length ≤ k + 1 ∧ (∀ p ∈ qs, p.1.vals.length ≤ k * 1100000) ∧ Below w.heap.size w wx ∧ wx.cell? ⟨wo.heap.size, 1, none⟩ = some (.slice Av l[k].vals.length cv))
        case first =>
          cases hx : (ps.map (·.1)).findIdx? (fun a => decide (a.name = nm)) with
          | none =>
            have hAd := Idn.addA_none l[k].vals hx
            rw [idxP_none hx]
            clear hx
            go_wp2_with (at_builtin; refine wpList_push w2 rfl _ _ 22 rfl w.heap.size 48 (.agg #[.string ⟨#[]⟩, .slice none 0 0]) 2 40 Tryz.underlying22 info_attr rfl (by decide) _ ps.length _ hown2.1 rfl [.string (B nm), .slice none 0 0] rfl rfl (by intro u hu; simp at hu; rcases hu with rfl | rfl <;> rfl) (by omega) hbw2.size ?_ rfl)
            intro v' w3 hown3 hg3 hat3 hb3 _
            have hP := hown2.push (n := nm) hown3 hg3
            have d3 : w3.cell? ⟨wo.heap.size, 1, none⟩ = some (.slice Av l[k].vals.length cv) := by
              rw [World.cell?_of_block (w := w2) (hg3.block wo.heap.size (World.block_lt_of_cell? _ _ d2) (fun e => by have := hlo _ e.symm; omega))]
              exact d2
            have HS : Hid (((ps ++ [((⟨nm, []⟩ : Idn.Att), Value.slice none 0 0)]).map (·.1)).set ps.length ⟨nm, [] ++ l[k].vals⟩ = Idn.addA (ps.map (·.1)) nm l[k].vals) := by
              show _ = _
              rw [hAd, List.map_append, List.set_append_right _ _ (by simp)]
              simp
            clear hAd
            go_wp2_with fail
            go_meet
            refine ⟨_, ps.length, (⟨nm, []⟩, .slice none 0 0), rfl, hP, by simp, HS, by simp; omega, ?_, hbw2.trans hb3, d3⟩
            intro p hp
            rcases List.mem_append.1 hp with hp | hp
            · exact hpv p hp
            · simp at hp; subst hp; simp
          | some j =>
            have hjl : j < (ps.map (·.1)).length := (List.findIdx?_eq_some_iff_getElem.1 hx).1
            have hAd := Idn.addA_some l[k].vals hx hjl
            rw [idxP_some hx]
            have hj0 : ¬ ((j : Int) < 0) := by omega
            rw [List.length_map] at hjl
            have HS : Hid ((ps.map (·.1)).set j ⟨ps[j].1.name, ps[j].1.vals ++ l[k].vals⟩ = Idn.addA (ps.map (·.1)) nm l[k].vals) := by
              show _ = _
              rw [hAd]; simp
            clear hx hAd
            go_wp2_with fail
            go_meet
            exact ⟨ps, j, ps[j], rfl, hown2, List.getElem?_eq_getElem hjl, HS, by omega, hpv, hbw2, d2⟩
        case rest =>
          obtain ⟨qs, j, p, rfl, hownc, hpj, hset, hql, hqv, hbc, d3⟩ := hcut
          have hjl := (List.getElem?_eq_some_iff.1 hpj).1
          obtain ⟨g, cap, hu, _, hgl⟩ := hownc.1.form (by omega)
          subst hu
          have hjI : (j : Int) < (qs.length : Int) := by omega
          obtain ⟨Ap, cp, hup⟩ := own_shape (hownc.2.1 p (List.mem_of_getElem? hpj))
          have hcells : wc.cell? ⟨g, j * 2 + 1, none⟩ = some (.slice Ap p.1.vals.length cp) := by
            have e : ∀ j, ((⟨g, 0, none⟩ : Addr).add j) = ⟨g, j, none⟩ := fun j => by unfold Addr.add; split <;> simp_all
            have := hownc.1.cells (g := g) rfl _ _ (rowA_at qs j p hpj).2
            rw [e, hup] at this
            exact this
          have hownd : AttOwn wc.drew w.heap.size (.slice (some ⟨g, 0, none⟩) qs.length cap) qs := hownc
          have hownp : wc.drew.ownsRow w.heap.size 9 1 (.slice Ap p.1.vals.length cp) p.1.vals.length (p.1.vals.map sv) := by
            have := hownc.2.1 p (List.mem_of_getElem? hpj)
            rw [hup] at this
            exact this
          have hvd : StrsV wc.drew w.heap.size (.slice Av l[k].vals.length cv) l[k].vals := by
            have : StrsV wc w.heap.size (.slice Av l[k].vals.length cv) l[k].vals := SlV.keep hva hbc
            exact this
          have hbd : w.heap.size ≤ wc.drew.heap.size := hbc.size
          have hpk := hqv p (List.mem_of_getElem? hpj)
          have hkk : k * 1100000 ≤ 900 * 1100000 := Nat.mul_le_mul_right _ (by omega)
          clear hownc hown2 hb12 hb1 hbW hbo1 hbo2 hbw2 hb2 hbW2 q2 d2
          go_wp2_with fail
          go_region_law (refine step_appendS rfl _ _ 45 rfl w.heap.size 9 Tryz.underlying45 info_str _ _ _ hownp rfl _ l[k].vals _ hvd rfl (by omega) hbd ?_; intro v' w' hown' hg' hat'; obtain ⟨st1, st2, hnew⟩ := hownd.grow hpj hown' (by rw [hup]; exact hg') (by rw [hup]; exact hat'); rw [hup] at st1; obtain ⟨A9, c9, hv9⟩ := own_shape hown'; subst hv9)
          all_goals
            have hHF : Hid (Idn.grp ((qs.set j (⟨p.1.name, p.1.vals ++ l[k].vals⟩, .slice A9 (p.1.vals.length + l[k].vals.length) c9)).map (·.1)) (l.drop (k + 1)) = Idn.grp [] l) := by
              show _ = _
              rw [List.map_set, hset.out, ← hstep]; exact hinv.out
            have hgb : w.heap.size ≤ g := (hownd.1.lt g rfl).1
            have hbf : Below w.heap.size w (w'.setCell ⟨g, j * 2 + 1, none⟩ (.slice A9 (p.1.vals.length + l[k].vals.length) c9)) :=
              (((hbc.drew).grown hg' hbc.size (fun k' hk' => (hownp.lt k' hk').1))).setCell (p := ⟨g, j * 2 + 1, none⟩) hgb _
            go_wp2_with fail
            go_roundw
            case rel =>
              refine ⟨k + 1, _, by omega, by go_num, hnew, hbf, hHF, by rw [List.length_set]; exact hql, fun q hq => ?_⟩
              rcases List.mem_or_eq_of_mem_set hq with hq | rfl
              · exact Nat.le_trans (hqv q hq) (Nat.mul_le_mul_right _ (Nat.le_succ k))
              · show (p.1.vals ++ l[k].vals).length ≤ _; rw [List.length_append, Nat.succ_mul]; exact Nat.add_le_add hpk hv9
            case measure => simp [intOf]; omega
      · have hltI : ¬ (k : Int) < (l.length : Int) := by omega
        have HF : Hid (ps.map (·.1) = Idn.grp [] l) := by show _ = _; rw [← hinv.out, List.drop_eq_nil_of_le (by omega)]; rfl
        go_wp2_with fail
        go_meet
        refine ⟨ps, hown, hb, HF, by omega, fun p hp => ?_⟩
        have := hpv p hp
        have : k * 1100000 ≤ 900 * 1100000 := Nat.mul_le_mul_right _ (by omega)
        omega
  case rest =>
    obtain ⟨ps0, hown0, hb, hps0, hpl0, hpv0⟩ := hcut
    have hD := delA_any 83 #[] fn_sorted2 (fun x => ((x.2 : Nat) : Int) == 0) w.heap.size _ ps0 wc hown0 hb.size (by omega) (fun g _ => sorted2_pred g wc)
    have hps1 := full_map ps0
    have hne0 : ∀ p ∈ (ps0.filter fun q => !((((nmA q).2 : Nat) : Int) == 0)), p.1.vals.length ≠ 0 := fun p hp h0 => by
      have := (List.mem_filter.1 hp).2
      unfold nmA at this
      rw [h0] at this
      simp at this
    have hpl1 : (ps0.filter fun q => !((((nmA q).2 : Nat) : Int) == 0)).length ≤ 1000 := Nat.le_trans (List.length_filter_le _ _) hpl0
    have hpv1 : ∀ p ∈ (ps0.filter fun q => !((((nmA q).2 : Nat) : Int) == 0)), p.1.vals.length ≤ 1000000000 := fun p hp => hpv0 p (List.mem_filter.1 hp).1
    rw [hps0.out] at hps1
    generalize (ps0.filter fun q => !((((nmA q).2 : Nat) : Int) == 0)) = ps at *
    have hps := Lib.hid hps1
    have hne' := hne0
    have hpl := hpl1
    have hpv := hpv1
    obtain ⟨Au0, cu0, hu0⟩ := own_shape hown0.1
    subst hu0
    clear hown0 hps0 hpl0 hpv0 hps1 hne0 hpl1 hpv1
    go_wp2_with fail
    refine hD.mono ?_
    rintro e w1 ⟨v1, rfl, hown1, hb1⟩
    have hbw1 := hb.trans hb1
    obtain ⟨Au, cu, hu⟩ := own_shape hown1.1
    subst hu
    clear hD
    go_upto_block 2 with fail
    go_cut [] (fun wx => ∃ qs, AttOwn wx w.heap.size (.slice Au ps.length cu) qs ∧ Below w.heap.size w wx ∧ Hid (qs.map (·.1) = (ps.map (·.1)).map Idn.normA) ∧ qs.length = ps.length)
    case first =>
      go_wp2_with fail
      go_loopw [8, 47] (fun _ i wr => ∃ (k : Nat) (qs : List (Idn.Att × Value)), k ≤ ps.length ∧ i = .int .i64 k ∧ AttOwn wr w.heap.size (.slice Au ps.length cu) qs ∧ Below w.heap.size w wr ∧ Hid (qs.map (·.1) = ((ps.map (·.1)).take k).map Idn.normA ++ (ps.map (·.1)).drop k) ∧ qs.length = ps.length) (fun _ i _ => ps.length - (intOf i).toNat)
      case atStart => exact ⟨0, ps, Nat.zero_le _, rfl, hown1, hbw1, by show _ = _; simp, rfl⟩
      case round =>
        obtain ⟨k, qs, hk, rfl, hown, hbr, hinv, hql⟩ := hrel
        by_cases hlt : k < ps.length
        · have hltI : (k : Int) < (ps.length : Int) := by omega
          obtain ⟨q, hqk⟩ : ∃ q, qs[k]? = some q := ⟨_, List.getElem?_eq_getElem (by omega)⟩
          obtain ⟨g, cap, hu, _, hgl⟩ := hown.1.form (by omega)
          injection hu with hu1 hu2 hu3
          subst hu1 hu3
          have hqm : q ∈ qs := List.mem_of_getElem? hqk
          have hq1 : q.1 = ps[k].1 := by
            have := congrArg (·[k]?) hinv.out
            simp only [List.getElem?_map, hqk, Option.map_some] at this
            rw [List.getElem?_append_right (by simp; omega)] at this
            simp [hlt, Nat.min_eq_left (Nat.le_of_lt hlt)] at this
            exact this
          have hpm : ps[k] ∈ ps := List.getElem_mem _
          have hvn := hne' _ hpm
          have hvb := hpv _ hpm
          obtain ⟨k0, k1, kf, kb⟩ := hown.cell hqk
          have hou := hown.2.1 _ hqm
          rw [hq1] at hou
          obtain ⟨g1, cap1, hv1, hgb1, hg1⟩ := hou.form (by omega)
          rw [hv1] at hou k1
          have hSo := sort_own g1 cap1 ps[k].1.vals w.heap.size wr hou (by omega) hvb hbr.size
          have hHq : Hid (qs.set k (⟨ps[k].1.name, Lib.compact (sorted ps[k].1.vals)⟩, q.2) = qs.set k (⟨ps[k].1.name, Lib.compact (sorted ps[k].1.vals)⟩, q.2)) := rfl
          have HQK := Lib.hid hqk
          have HQ1 := Lib.hid hq1
          have HV1 := Lib.hid hv1
          have HQL := Lib.hid hql
          clear hHq hqk hq1 hv1 hql k0 hu2
          go_wp2_with fail
          refine hSo.mono ?_
          rintro e w2 ⟨rfl, hou2, hg2⟩
          have hsl : (sorted ps[k].1.vals).length = ps[k].1.vals.length := sorted_len _
          have hou2' : w2.ownsRow w.heap.size 9 1 (.slice (some ⟨g1, 0, none⟩) (sorted ps[k].1.vals).length cap1) (sorted ps[k].1.vals).length ((sorted ps[k].1.vals).map sv) := by rw [hsl]; exact hou2
          have hown2 := hown.turn (vals := sorted ps[k].1.vals) HQK.out (by rw [HV1.out, hsl]; exact hou2) (by rw [HV1.out]; exact hg2)
          have hk2 : (qs.set k (⟨q.1.name, sorted ps[k].1.vals⟩, q.2))[k]? = some (⟨q.1.name, sorted ps[k].1.vals⟩, q.2) := by simp [HQL.out, hlt]
          obtain ⟨_, k12, kf2, _⟩ := hown2.cell hk2
          rw [HV1.out] at k12
          have hb2 : Below w.heap.size w w2 := hbr.grown hg2 hbr.size (fun x hx => by injection hx with hx; omega)
          have hCo := compact_own g1 cap1 (sorted ps[k].1.vals) w.heap.size w2 hou2' (by rw [hsl]; omega) (by rw [hsl]; exact hvb)
          rw [hsl] at hCo
          have hgl2 : g < w2.heap.size := World.block_lt_of_cell? _ _ k12
          clear hSo hown hou2 hou2' hou kf k1 hsl
          go_wp2_with fail
          refine hCo.mono ?_
          rintro e w3 ⟨rfl, hou3, hg3⟩
          clear hCo
          obtain ⟨st1, st2, hown3⟩ := hown2.put (u' := .slice (some ⟨g1, 0, none⟩) (Lib.compact (sorted ps[k].1.vals)).length cap1) hk2 hou3 (by rw [HV1.out]; exact hg3) (.inl (by rw [HV1.out]; rfl))
          dsimp only at st1 hown3
          rw [HV1.out] at st1
          have hb3 : Below w.heap.size w w3 := hb2.grown hg3 hb2.size (fun x hx => by injection hx with hx; omega)
          have hgl3 : g < w3.heap.size := World.block_lt_of_cell? _ _ st1
          have HF : Hid (((qs.set k (⟨q.1.name, sorted ps[k].1.vals⟩, q.2)).set k (⟨q.1.name, Lib.compact (sorted ps[k].1.vals)⟩, .slice (some ⟨g1, 0, none⟩) (Lib.compact (sorted ps[k].1.vals)).length cap1)).map (·.1) = ((ps.map (·.1)).take (k + 1)).map Idn.normA ++ (ps.map (·.1)).drop (k + 1)) := by
            show _ = _
            rw [List.set_set, List.map_set, hinv.out, HQ1.out]
            have hl : k < (ps.map (·.1)).length := by simpa using hlt
            rw [List.set_append_right _ _ (by simp; omega), List.take_succ_eq_append_getElem hl, List.map_append, List.drop_eq_getElem_cons hl]
            simp [Nat.min_eq_left (Nat.le_of_lt hlt)]
            rfl
          clear hown2 hk2 k12 kf2 hou3
          go_wp2_with fail
          go_roundw
          case rel => exact ⟨k + 1, _, by omega, by go_num, hown3, hb3.setCell (p := ⟨g, k * 2 + 1, none⟩) kb _, HF, by rw [List.length_set, List.length_set]; exact HQL.out⟩
          case measure => simp [intOf]; omega
        · have hltI : ¬ (k : Int) < (ps.length : Int) := by omega
          have HF : Hid (qs.map (·.1) = (ps.map (·.1)).map Idn.normA) := by
            show _ = _
            rw [hinv.out, List.take_of_length_le (by simp; omega), List.drop_eq_nil_of_le (by simp; omega), List.append_nil]
          go_wp2_with fail
          go_meet
          exact ⟨qs, hown, hbr, HF, hql⟩
    case rest =>
      obtain ⟨qs, hown, hb, hq, hql⟩ := hcut
      have hnd : ((qs.map (·.1)).map (·.name)).Nodup := by
        rw [hq.out, Idn.norm_names, hps.out]
        exact (List.filter_sublist.map _).nodup (Idn.grp_nd l [] (by simp))
      have hS := sortA_any _ w.heap.size qs wc hown hb.size (by omega) hnd
      rw [hq.out, hps.out, Idn.sortedG_law] at hS
      clear hown
      go_wp2_with fail
      refine hS.mono ?_
      rintro e w4 ⟨rfl, qs', hown', hq', hb'⟩
      clear hS
      go_wp2_with fail
      go_ret
      exact ⟨_, qs', rfl, hown', hq', hb.trans hb'⟩
end Go.Proofs.YtoopoglkeeoamaaGreatDoor
/- attrs: Names, Get, at attributes that may have no values. -/
namespace Go.Proofs.YtoopoglkeeoamaaGreatDoor
open Go.RowKit Go.Sort
open Idn (L B Bs drop_L take_L size_L)
theorem rSorted_le (l : List Idn.Att) : (Idn.rSorted l).length ≤ l.length := by
 rw [← Idn.sortedG_law, List.length_mergeSort, List.length_map]
 have h1 := List.length_filter_le Idn.full (Idn.grp [] l)
 have h2 := grp_len l []
 simp only [List.length_nil, Nat.zero_add] at h2
 omega
theorem rGet_len {l : List Idn.Att} (hs : Idn.ASm7 l) (n : Bs) : (rGet l n).length ≤ 1000000000 := by
 unfold rGet
 split
 ·simp
 ·split
  ·simp
  ·rename_i a ha
   have hm := List.mem_of_getElem? ha
   rw [← Idn.sortedG_law] at hm
   obtain ⟨b, hb, rfl⟩ := List.mem_map.1 ((List.mergeSort_perm _ _).mem_iff.1 hm)
   have h1 := Lib.compact_length_le (Idn.srt b.vals)
   have h2 : (Idn.srt b.vals).length = b.vals.length := by simp [Idn.srt]
   have h3 := Idn.grp_le 1100000 l [] 0 (by simp) (fun a ha => (hs.2 a ha).2.1) b (List.mem_filter.1 hb).1
   have h4 := Nat.mul_le_mul_right 1100000 hs.1
   show (Lib.compact (Idn.srt b.vals)).length ≤ _
   omega
theorem getG_any (v : Value) (l : List Idn.Att) (n : ByteArray) (w : World) (hv : AttsV w w.heap.size v l) (hs : Idn.ASm7 l) (hn : n.size ≤ 1000000000) :
    Calls Tryz.prog 70 #[v, .string n] w fun e w' => ∃ A c, e = .returned (.slice A (rGet l (L n)).length (rGet l (L n)).length) ∧ w'.ownsRow w.heap.size 9 1 (.slice A (rGet l (L n)).length c) (rGet l (L n)).length ((rGet l (L n)).map sv) ∧ Below w.heap.size w w' := by
  have hS := sortedG_any v l w hv hs
  have hgl := rSorted_le l
  have hl1 := hs.1
  have hres : Hid (rGet l (L n) = match (Idn.rSorted l).findIdx? (fun a => decide (a.name = Idn.lower (L n))) with
    | none => []
    | some k => match (Idn.rSorted l)[k]? with | none => [] | some a => a.vals) := rfl
  have hbd := rGet_len hs (L n)
  generalize rGet l (L n) = res at *
  generalize Idn.rSorted l = q at *
  have hq : q.length ≤ 1000 := by omega
  obtain ⟨A0, c0, rfl, hc0⟩ := SlV.shape hv
  clear hv hs hgl
  go_enter Tryz.func70, Tryz.ntmps70
  go_wp2_with fail
  refine hS.mono ?_
  rintro e w1 ⟨v1, ps, rfl, hown, hpq, hb1⟩
  have hpl : ps.length = q.length := by rw [← hpq, List.length_map]
  have hF := find_any v1 q n w1 (hown.atts hpq) (by omega) hn
  obtain ⟨A, c, hv1⟩ := own_shape hown.1
  subst hv1
  clear hS
  have HPL := Lib.hid hpl
  have HPQ := Lib.hid hpq
  have hpl9 : ps.length ≤ 1000 := by omega
  clear hpq hpl
  cases hx : q.findIdx? (fun a => decide (a.name = Idn.lower (L n))) with
  | none =>
    have HF : Hid (res = []) := by show _ = _; rw [hres.out, hx]
    rw [idxP_none hx] at hF
    clear hx
    go_wp2_with fail
    refine hF.mono ?_
    rintro e w2 ⟨rfl, hb2⟩
    go_wp2
    go_ret
    exact ⟨none, 0, by rw [HF.out]; rfl, by rw [HF.out]; exact World.ownsRow_nil _ _ _ _, hb1.trans (hb2.mono hb1.size)⟩
  | some k =>
    have hkl : k < q.length := (List.findIdx?_eq_some_iff_getElem.1 hx).1
    have HF : Hid (res = q[k].vals) := by show _ = _; rw [hres.out, hx]; simp [hkl]
    rw [idxP_some hx] at hF
    have hkp : k < ps.length := by rw [HPL.out]; exact hkl
    have hkI : (k : Int) < (ps.length : Int) := by omega
    have hk0 : ¬ ((k : Int) < 0) := by omega
    clear hx
    obtain ⟨g, cap, hu, _, hgl⟩ := hown.1.form (by omega)
    injection hu with hu1 hu2 hu3
    subst hu1 hu3
    have hpk : ps[k]? = some ps[k] := List.getElem?_eq_getElem (by omega)
    have hp1 : ps[k].1 = q[k] := by
      have := HPQ.out
      subst this
      simp
    have HP1 := Lib.hid hp1
    have hpm : ps[k] ∈ ps := List.getElem_mem _
    clear hp1
    generalize ps[k] = p at *
    have HPK := Lib.hid hpk
    clear hpk
    obtain ⟨Av, cv, hup⟩ := own_shape (hown.2.1 p hpm)
    go_wp2_with fail
    refine hF.mono ?_
    rintro e w2 ⟨rfl, hb2⟩
    have hown2 := hown.keep hb2
    obtain ⟨c0, c1, _, _⟩ := hown2.cell HPK.out
    have ho := hown2.2.1 p hpm
    rw [hup] at c1 ho
    obtain ⟨Aw, cw, ew, hcw, hrd⟩ := StrsV.of_own ho
    injection ew with ew1 ew2 ew3
    subst ew1
    have hvc : (p.1.vals.length : Int) ≤ (cv : Int) := by omega
    have hv0 : (0 : Int) ≤ (p.1.vals.length : Int) := by omega
    have HO := Lib.hid ho
    clear hF hown hown2 ho hup hpm
    go_wp2
    go_ret
    exact ⟨Av, cv, by rw [HF.out, ← HP1.out]; rfl, by rw [HF.out, ← HP1.out]; exact own_base HO.out (Nat.le_refl _), hb1.trans (hb2.mono hb1.size)⟩
end Go.Proofs.YtoopoglkeeoamaaGreatDoor
