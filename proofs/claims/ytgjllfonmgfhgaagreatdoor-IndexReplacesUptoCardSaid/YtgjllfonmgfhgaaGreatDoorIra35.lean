/- Part 35 of the proof that laws of identitylaw11 return true at every argument within the bound: the package variables hold what the program lays; nothing else is asked. -/
import Derived.Test.YtgjllfonmgfhgaaGreatDoorIra03
import Derived.Test.YtgjllfonmgfhgaaGreatDoorIra07
import Derived.Test.YtgjllfonmgfhgaaGreatDoorIra08
import Derived.Test.YtgjllfonmgfhgaaGreatDoorIra11
import Derived.Test.YtgjllfonmgfhgaaGreatDoorIra15
import Derived.Test.YtgjllfonmgfhgaaGreatDoorIra16
import Derived.Test.YtgjllfonmgfhgaaGreatDoorIra23
import Derived.Test.YtgjllfonmgfhgaaGreatDoorIra25
import Derived.Test.YtgjllfonmgfhgaaGreatDoorIra27
import Derived.Test.YtgjllfonmgfhgaaGreatDoorIra29
import Derived.Test.YtgjllfonmgfhgaaGreatDoorIra34
import Derived.Deep.CutBlock
set_option linter.unusedVariables false
set_option linter.unusedSimpArgs false
/- Plain law of SchemaInherits. -/
namespace Go.Proofs.YtgjllfonmgfhgaaGreatDoor
open Go.RowKit Go.Sort
open Idn (L B Bs)
theorem vals_clean : ∀ (l p : List Bs), Idn.valsErr p l = 0 → ∀ x ∈ l, Idn.clean x = true
  | [], _, _, x, hx => by simp at hx
  | v :: l, p, h, x, hx => by
    unfold Idn.valsErr at h
    split at h
    · cases h
    · rename_i h1
      split at h
      · cases h
      · rcases List.mem_cons.1 hx with rfl | hx
        · simpa using h1
        · exact vals_clean l _ h x hx
theorem atts_clean : ∀ (l p : List Idn.Att), Idn.attsErr p l = 0 → ∀ a ∈ l, ∀ x ∈ a.vals, Idn.clean x = true
  | [], _, _, a, ha => by simp at ha
  | b :: l, p, h, a, ha => by
    unfold Idn.attsErr at h
    split at h
    · rename_i hn; simp [h] at hn
    · rename_i hn
      have h0 : Idn.attErr p b = 0 := by simpa using hn
      rcases List.mem_cons.1 ha with rfl | ha
      · unfold Idn.attErr at h0
        split at h0
        · cases h0
        · split at h0
          · cases h0
          · split at h0
            · cases h0
            · split at h0
              · cases h0
              · exact vals_clean _ _ h0
      · exact atts_clean l _ h a ha
theorem aCheck_clean {l : List Idn.Att} (h : Idn.aCheck l = 0) : ∀ a ∈ l, ∀ x ∈ a.vals, Idn.clean x = true := by
  unfold Idn.aCheck at h
  split at h
  · cases h
  · exact atts_clean l [] h
end Go.Proofs.YtgjllfonmgfhgaaGreatDoor
/- Plain functions: what the layer entry and the rest of the layer attrs compute. -/
namespace Go.Proofs.YtgjllfonmgfhgaaGreatDoor
open Go.RowKit Go.Sort
open Idn (L B Bs)
def eCheck (n : Bs) (l : List Idn.Att) : Int := if n.isEmpty || !validN n then 5 else Idn.aCheck l
/-- the values in normal form, or the first error -/
def eValsK (s : Idn.Sch) (a : Bs) : List Bs → List Bs → List Bs × Int
  | acc, [] => (acc, 0)
  | acc, v :: l => if (sNorm s a v).2 != 0 then ([], (sNorm s a v).2) else eValsK s a (acc ++ [(sNorm s a v).1]) l
def eVals (s : Idn.Sch) (a : Bs) (l : List Bs) : List Bs × Int := eValsK s a [] l
def dupK : List Bs → List Bs → Bool
  | _, [] => false
  | p, v :: l => p.contains v || dupK (p ++ [v]) l
def eAtt (s : Idn.Sch) (a : Bs) (l : List Bs) : List Bs × Int := if (eVals s a l).2 != 0 then ([], (eVals s a l).2) else if dupK [] (eVals s a l).1 then ([], 7) else ((eVals s a l).1, 0)
def eAttsK (s : Idn.Sch) : List Idn.Att → List Idn.Att → List Idn.Att × Int
  | acc, [] => (acc, 0)
  | acc, a :: l => if (eAtt s a.name a.vals).2 != 0 then ([], (eAtt s a.name a.vals).2) else eAttsK s (acc ++ [⟨a.name, (eAtt s a.name a.vals).1⟩]) l
def leLow (a b : Idn.Att) : Bool := decide (Idn.lower a.name ≤ Idn.lower b.name)
def byLow (l : List Idn.Att) : List Idn.Att := l.mergeSort leLow
abbrev En := Bs × List Idn.Att
def eOut (s : Idn.Sch) (n : Bs) (l : List Idn.Att) : En × Int := if sValid s l != 0 then (([], []), sValid s l) else ((n, l), 0)
def eNormal (s : Idn.Sch) (n : Bs) (l : List Idn.Att) : En × Int :=
  if (Idn.cleanN n).2 != 0 || (Idn.cleanN n).1.isEmpty then (([], []), 5)
  else if Idn.aCheck l != 0 then (([], []), Idn.aCheck l)
  else if (eAttsK s [] (byLow l)).2 != 0 then (([], []), (eAttsK s [] (byLow l)).2)
  else eOut s (Idn.cleanN n).1 (Idn.aSorted (eAttsK s [] (byLow l)).1)
def aSet (l : List Idn.Att) (n : Bs) (v : List Bs) : List Idn.Att := Idn.rSorted (l.filter (fun a => !decide (a.name = Idn.lower n)) ++ [⟨Idn.lower n, v⟩])
structure Md where
  op : Int
  name : Bs
  vals : List Bs
def minus (a b : List Bs) : List Bs := a.filter fun x => !b.contains x
end Go.Proofs.YtgjllfonmgfhgaaGreatDoor
/- Plain laws: the general normal form of attributes; attributes in the order of their names. -/
namespace Idn
open Go
theorem mem_lows {l : List Att} {m : Bs} : m ∈ lows l ↔ valsOf l m ≠ [] := by
  unfold lows valsOf
  rw [Ne, List.flatMap_eq_nil_iff, List.mem_map]
  constructor
  · rintro ⟨a, ha, rfl⟩ h
    rw [List.mem_filter] at ha
    have := h a (List.mem_filter.2 ⟨ha.1, by simp⟩)
    rw [this] at ha; simp at ha
  · intro h
    refine Decidable.byContradiction fun hn => h fun a ha => ?_
    rw [List.mem_filter] at ha
    refine Decidable.byContradiction fun hv => hn ⟨a, List.mem_filter.2 ⟨ha.1, ?_⟩, by simpa using ha.2⟩
    simpa using List.length_pos_iff.2 hv
theorem sort_names {q : List Att} {ns : List Bs} {f : Bs → Att} (h1 : ∀ a ∈ q, a = f a.name) (h2 : (q.map (·.name)).Nodup) (h3 : ∀ m, m ∈ q.map (·.name) ↔ m ∈ ns) (h4 : ns.Pairwise (· < ·)) :
    q.mergeSort (fun a b => decide (a.name ≤ b.name)) = ns.map f := by
  have hp : (q.mergeSort fun a b => decide (a.name ≤ b.name)).Perm q := List.mergeSort_perm _ _
  have hs : (q.mergeSort fun a b => decide (a.name ≤ b.name)).Pairwise fun a b => decide (a.name ≤ b.name) = true := List.pairwise_mergeSort (fun a b c h1 h2 => by
      rw [decide_eq_true_eq] at *; exact List.le_trans h1 h2) (fun a b => by
      rw [Bool.or_eq_true, decide_eq_true_eq, decide_eq_true_eq]; exact List.le_total _ _) _
  generalize (q.mergeSort fun a b => decide (a.name ≤ b.name)) = r at *
  have e : r.map (·.name) = ns := by
    refine uniq _ _ ?_ h4 fun x => by rw [(hp.map (·.name)).mem_iff]; exact h3 x
    rw [← (hp.map (·.name)).nodup_iff] at h2
    rw [List.pairwise_map]
    rw [List.nodup_iff_pairwise_ne, List.pairwise_map] at h2
    refine List.Pairwise.imp₂ ?_ hs h2
    intro a b h1 h2
    rw [decide_eq_true_eq] at h1
    exact Decidable.byContradiction fun hn => h2 (List.le_antisymm h1 (List.not_lt.1 hn))
  rw [← e, List.map_map]
  have : ∀ a ∈ r, (f ∘ (·.name)) a = a := fun a ha => (h1 a (hp.mem_iff.1 ha)).symm
  rw [List.map_congr_left this, List.map_id']
theorem grp_vals {l : List Att} {b : Att} (hb : b ∈ grp [] l) : b.vals = valsOf l b.name := by
  have h1 := tot_self (grp [] l) (grp_nd l [] (by simp)) b hb
  rw [grp_tot _ l [] (by simp)] at h1
  exact h1.symm
def full (a : Att) : Bool := decide (a.vals.length ≠ 0)
/-- the normal form of any attributes, by the layer, is the reference's -/
theorem sortedG_law (l : List Att) : (((grp [] l).filter full).map normA).mergeSort (fun a b => decide (a.name ≤ b.name)) = rSorted l := by
  refine sort_names (f := rOne l) (fun a ha => ?_) ?_ (fun m => ?_) (insAll_lt _)
  · obtain ⟨b, hb, rfl⟩ := List.mem_map.1 ha
    have hv := grp_vals (List.mem_filter.1 hb).1
    unfold normA rOne
    dsimp only
    rw [← hv]
    congr 1
    exact law b.vals
  · rw [norm_names]
    exact (List.filter_sublist.map _).nodup (grp_nd l [] (by simp))
  · rw [norm_names, insAll_mem, mem_lows]
    constructor
    · intro h
      obtain ⟨b, hb, rfl⟩ := List.mem_map.1 h
      rw [List.mem_filter] at hb
      rw [← grp_vals hb.1]
      intro e
      have := hb.2
      unfold full at this
      rw [e] at this
      simp at this
    · intro h
      have hm : m ∈ (grp [] l).map (·.name) := by
        rw [grp_names]
        have h2 := mem_lows.2 h
        unfold lows at h2
        obtain ⟨a, ha, rfl⟩ := List.mem_map.1 h2
        exact .inr (List.mem_map.2 ⟨a, (List.mem_filter.1 ha).1, rfl⟩)
      obtain ⟨b, hb, rfl⟩ := List.mem_map.1 hm
      refine List.mem_map.2 ⟨b, List.mem_filter.2 ⟨hb, ?_⟩, rfl⟩
      unfold full
      rw [grp_vals hb, decide_eq_true_eq]
      intro e
      exact h (List.eq_nil_of_length_eq_zero e)
theorem attErr_zero {p : List Att} {a : Att} (h : attErr p a = 0) : name a.name = true ∧ ixA p a.name = none ∧ a.vals.length ≠ 0 ∧ a.vals.length ≤ 16 ∧ valsErr [] a.vals = 0 := by
  unfold attErr at h
  split at h
  · cases h
  · rename_i h1
    split at h
    · cases h
    · rename_i h2
      split at h
      · cases h
      · rename_i h3
        split at h
        · cases h
        · rename_i h4
          exact ⟨by simpa using h1, by simpa using h2, h3, by omega, h⟩
theorem atts_nd : ∀ (l p : List Att), attsErr p l = 0 → (∀ a ∈ l, ∀ b ∈ p, lower b.name ≠ lower a.name) ∧ (l.map fun a => lower a.name).Nodup ∧ ∀ a ∈ l, name a.name = true ∧ valsErr [] a.vals = 0
  | [], _, _ => by simp
  | c :: l, p, h => by
    rw [attsErr] at h
    by_cases hb : attErr p c = 0
    · rw [if_neg (by simpa using hb)] at h
      obtain ⟨z1, z2, z3, z4, z5⟩ := attErr_zero hb
      obtain ⟨i1, i2, i3⟩ := atts_nd l (p ++ [c]) h
      have hc : ∀ b ∈ p, lower b.name ≠ lower c.name := fun b hbm => by
        have := List.findIdx?_eq_none_iff.1 z2 b hbm
        simpa using this
      refine ⟨fun a ha b hbm => ?_, ?_, fun a ha => ?_⟩
      · rcases List.mem_cons.1 ha with rfl | ha
        · exact hc b hbm
        · exact i1 a ha b (List.mem_append_left _ hbm)
      · rw [List.map_cons, List.nodup_cons]
        refine ⟨fun hm => ?_, i2⟩
        obtain ⟨a, ha, e⟩ := List.mem_map.1 hm
        exact i1 a ha c (List.mem_append_right _ (by simp)) e.symm
      · rcases List.mem_cons.1 ha with rfl | ha
        · exact ⟨z1, z5⟩
        · exact i3 a ha
    · rw [if_pos (by simpa using hb)] at h
      exact absurd h hb
theorem aCheck_all {l : List Att} (h : aCheck l = 0) : l.length ≤ 32 ∧ (l.map fun a => lower a.name).Nodup ∧ ∀ a ∈ l, name a.name = true ∧ valsErr [] a.vals = 0 := by
  unfold aCheck at h
  split at h
  · cases h
  · obtain ⟨_, h2, h3⟩ := atts_nd l [] h
    exact ⟨by omega, h2, h3⟩
end Idn
namespace Go.Proofs.YtgjllfonmgfhgaaGreatDoor
open Go.RowKit Go.Sort
open Idn (L B Bs)
theorem tyLook_low (s : Idn.Sch) (n : Bs) : tyLook s (Idn.lower n) = tyLook s n := by unfold tyLook Idn.ixT; rw [Idn.lower_lower]
theorem sNorm_low (s : Idn.Sch) (n v : Bs) : sNorm s (Idn.lower n) v = sNorm s n v := by unfold sNorm kNorm; rw [tyLook_low]
end Go.Proofs.YtgjllfonmgfhgaaGreatDoor
/- Plain laws: the changes of attributes by the reference are the layer's; differences. -/
namespace Idn
open Go
theorem find_name (f : Bs → Att) (hf : ∀ n, (f n).name = n) (n : Bs) : ∀ ns : List Bs, (match (ns.map f).findIdx? (fun a => decide (a.name = n)) with
    | none => []
    | some k => match (ns.map f)[k]? with | none => [] | some a => a.vals) = if n ∈ ns then (f n).vals else []
  | [] => by simp
  | m :: ns => by
    have ih := find_name f hf n ns
    rw [List.map_cons, List.findIdx?_cons, hf m]
    by_cases h : m = n
    · subst h; simp
    · have hn : n ≠ m := fun e => h e.symm
      simp only [h, decide_false, Bool.false_eq_true, if_false, List.mem_cons, hn, false_or]
      rw [← ih]
      cases (ns.map f).findIdx? (fun a => decide (a.name = n)) with
      | none => rfl
      | some k => simp
theorem insAll_length {v : List Bs} (h : v.Nodup) : (insAll v).length = v.length := by
  have h1 : (insAll v).Nodup := (insAll_lt v).imp fun h e => by subst e; exact List.lt_irrefl _ h
  exact ((List.perm_ext_iff_of_nodup h1 h).2 fun x => insAll_mem v x).length_eq
theorem insAll_nodup (v : List Bs) : (insAll v).Nodup := (insAll_lt v).imp fun h e => by subst e; exact List.lt_irrefl _ h
theorem valsOf_app (x y : List Att) (n : Bs) : valsOf (x ++ y) n = valsOf x n ++ valsOf y n := by unfold valsOf; rw [List.filter_append, List.flatMap_append]
theorem rSorted_name {l : List Att} {a : Att} (h : a ∈ rSorted l) : lower a.name = a.name := by
  unfold rSorted at h
  obtain ⟨m, hm, rfl⟩ := List.mem_map.1 h
  rw [insAll_mem] at hm
  unfold lows at hm
  obtain ⟨b, _, rfl⟩ := List.mem_map.1 hm
  exact lower_lower _
end Idn
namespace Go.Proofs.YtgjllfonmgfhgaaGreatDoor
open Go.RowKit Go.Sort
open Idn (L B Bs)
theorem rGet_law (l : List Idn.Att) (n : Bs) : rGet l n = Idn.insAll (Idn.valsOf l (Idn.lower n)) := by
  unfold rGet Idn.rSorted
  refine Eq.trans (Idn.find_name (Idn.rOne l) (fun _ => rfl) (Idn.lower n) (Idn.insAll (Idn.lows l))) ?_
  split
  · rfl
  · rename_i h
    rw [Idn.insAll_mem, Idn.mem_lows] at h
    rw [Decidable.not_not.1 h]; rfl
theorem valsOf_sorted (m : List Idn.Att) (n : Bs) : Idn.valsOf (Idn.rSorted m) (Idn.lower n) = Idn.insAll (Idn.valsOf m (Idn.lower n)) := by
  unfold Idn.rSorted
  have hlow : ∀ x ∈ Idn.insAll (Idn.lows m), Idn.lower x = x := fun x hx => by
    rw [Idn.insAll_mem] at hx
    unfold Idn.lows at hx
    obtain ⟨b, _, rfl⟩ := List.mem_map.1 hx
    exact Idn.lower_lower _
  have hnd := Idn.insAll_nodup (Idn.lows m)
  have hmem : Idn.lower n ∈ Idn.insAll (Idn.lows m) ↔ Idn.valsOf m (Idn.lower n) ≠ [] := by rw [Idn.insAll_mem, Idn.mem_lows]
  generalize Idn.insAll (Idn.lows m) = ns at *
  have key : ∀ ns : List Bs, (∀ x ∈ ns, Idn.lower x = x) → ns.Nodup → Idn.valsOf (ns.map (Idn.rOne m)) (Idn.lower n) = if Idn.lower n ∈ ns then Idn.insAll (Idn.valsOf m (Idn.lower n)) else [] := by
    intro ns
    induction ns with
    | nil => intro _ _; rfl
    | cons x ns ih =>
      intro h1 h2
      rw [List.nodup_cons] at h2
      have ih := ih (fun y hy => h1 y (List.mem_cons_of_mem _ hy)) h2.2
      have hx := h1 x List.mem_cons_self
      unfold Idn.valsOf at ih ⊢
      rw [List.map_cons]
      by_cases he : x = Idn.lower n
      · have hn : Idn.lower n ∉ ns := he ▸ h2.1
        rw [if_neg hn] at ih
        rw [List.filter_cons_of_pos (by show decide (Idn.lower x = Idn.lower n) = true; rw [hx, he]; simp), List.flatMap_cons, ih, List.append_nil, if_pos (by rw [he]; exact List.mem_cons_self)]
        show Idn.insAll (Idn.valsOf m x) = _
        rw [he]; rfl
      · rw [List.filter_cons_of_neg (by show ¬ decide (Idn.lower x = Idn.lower n) = true; rw [hx]; simpa using he), ih]
        have : Idn.lower n ∈ x :: ns ↔ Idn.lower n ∈ ns := by
          rw [List.mem_cons]
          exact ⟨fun h => h.resolve_left fun e => he e.symm, .inr⟩
        simp only [this]
  rw [key ns hlow hnd]
  split
  · rfl
  · rename_i h
    rw [hmem, Decidable.not_not] at h
    rw [h]; rfl
theorem insAll_idem (v : List Bs) : Idn.insAll (Idn.insAll v) = Idn.insAll v := Idn.uniq _ _ (Idn.insAll_lt _) (Idn.insAll_lt _) fun x => by rw [Idn.insAll_mem]
theorem vErr_nd (old : List Bs) : ∀ (l p : List Bs), vErr old p l = 0 → p.Nodup → (∀ x ∈ p, x ∉ old) → (p ++ l).Nodup ∧ ∀ x ∈ p ++ l, x ∉ old
  | [], p, _, h1, h2 => by rw [List.append_nil]; exact ⟨h1, h2⟩
  | v :: l, p, h, h1, h2 => by
    rw [vErr] at h
    split at h
    · cases h
    · split at h
      · cases h
      · rename_i h3
        split at h
        · cases h
        · rename_i h4
          rw [List.contains_iff_mem] at h3 h4
          have := vErr_nd old l (p ++ [v]) h (by rw [List.nodup_append]; exact ⟨h1, by simp, fun a ha b hb e => by simp at hb; subst hb; subst e; exact h4 ha⟩) (fun x hx => by
            rcases List.mem_append.1 hx with hx | hx
            · exact h2 x hx
            · simp at hx; subst hx; exact h3)
          rw [List.append_assoc] at this
          exact this
end Go.Proofs.YtgjllfonmgfhgaaGreatDoor
/- Modifications and entries in memory. -/
namespace Go.Proofs.YtgjllfonmgfhgaaGreatDoor
open Go.RowKit Go.Sort
open Idn (L B Bs)
def EMd (w : World) (hi : Nat) (x : Md) (cs : List Value) : Prop := ∃ v, cs = [.int .i64 x.op, sv x.name, v] ∧ StrsV w hi v x.vals
abbrev ModsV (w : World) (hi : Nat) (v : Value) (l : List Md) : Prop := SlV (EMd w hi) w hi 3 v l
theorem EMd.keep {w w' : World} {hi : Nat} {x : Md} {cs : List Value} (h : EMd w hi x cs) (hb : Below hi w w') : EMd w' hi x cs := by
  obtain ⟨v, h1, h2⟩ := h
  exact ⟨v, h1, SlV.keep h2 hb⟩
theorem EMd.mono {w : World} {hi hi' : Nat} {x : Md} {cs : List Value} (h : EMd w hi x cs) (hh : hi ≤ hi') : EMd w hi' x cs := by
  obtain ⟨v, h1, h2⟩ := h
  exact ⟨v, h1, SlV.mono h2 hh⟩
theorem ModsV.keep {w w' : World} {hi : Nat} {v : Value} {l : List Md} (h : ModsV w hi v l) (hb : Below hi w w') : ModsV w' hi v l := SlV.keepE h hb fun _ _ _ he => he.keep hb
theorem ModsV.mono {w : World} {hi hi' : Nat} {v : Value} {l : List Md} (h : ModsV w hi v l) (hh : hi ≤ hi') : ModsV w hi' v l :=
  SlV.mono (SlV.keepE h (Below.refl _ _) fun _ _ _ he => he.mono hh) hh
theorem ModsV.cell {w : World} {hi : Nat} {A : Option Addr} {n c : Nat} {l : List Md} (h : ModsV w hi (.slice A n c) l) {k : Nat} (hk : k < l.length) :
    ∃ b off v, A = some ⟨b, off, none⟩ ∧ b < hi ∧ w.cell? ⟨b, off + k * 3, none⟩ = some (.int .i64 l[k].op) ∧ w.cell? ⟨b, off + k * 3 + 1, none⟩ = some (.string (B l[k].name)) ∧ w.cell? ⟨b, off + k * 3 + 2, none⟩ = some v ∧ StrsV w hi v l[k].vals := by
  obtain ⟨b, off, hA, hb, cs, h1, ⟨v, h2, h4⟩, h3⟩ := h.at_ hk
  subst h2
  exact ⟨b, off, v, hA, hb, by simpa using h3 0 _ rfl, by simpa [sv, Nat.add_assoc] using h3 1 _ rfl, by simpa [Nat.add_assoc] using h3 2 _ rfl, h4⟩
/-- an entry by value: its name, its attributes -/
def EntW (w : World) (hi : Nat) (v : Value) (n : Bs) (l : List Idn.Att) : Prop := ∃ a, v = .agg #[.string (B n), a] ∧ AttsV w hi a l
theorem EntW.keep {w w' : World} {hi : Nat} {v : Value} {n : Bs} {l : List Idn.Att} (h : EntW w hi v n l) (hb : Below hi w w') : EntW w' hi v n l := by
  obtain ⟨a, e, h1⟩ := h
  exact ⟨a, e, AttsV.keep h1 hb⟩
theorem EntW.mono {w : World} {hi hi' : Nat} {v : Value} {n : Bs} {l : List Idn.Att} (h : EntW w hi v n l) (hh : hi ≤ hi') : EntW w hi' v n l := by
  obtain ⟨a, e, h1⟩ := h
  exact ⟨a, e, AttsV.mono h1 hh⟩
end Go.Proofs.YtgjllfonmgfhgaaGreatDoor
/- name.Valid, entry.Check. -/
namespace Go.Proofs.YtgjllfonmgfhgaaGreatDoor
open Go.RowKit Go.Sort
open Idn (L B Bs drop_L take_L size_L)
theorem nm_valid_any (s : ByteArray) (w : World) (hs : s.size ≤ 1000000000) :
    Calls Tryz.prog 48 #[.string s] w fun e w' => e = .returned (.bool (validN (L s))) ∧ Below w.heap.size w w' := by
  have hN := nm_normal_any s w hs
  have hv := normal_valid (L s)
  generalize Idn.normal (L s) = r at *
  generalize validN (L s) = b at *
  obtain ⟨l, d⟩ := r
  subst hv
  go_enter Tryz.func48, Tryz.ntmps48
  go_wp2_with fail
  refine hN.mono ?_
  rintro e w1 ⟨v, rfl, hown, hb⟩
  clear hN
  go_wp2
  go_ret
  exact ⟨rfl, hb⟩
end Go.Proofs.YtgjllfonmgfhgaaGreatDoor
/- entry: normal, twice. -/
namespace Go.Proofs.YtgjllfonmgfhgaaGreatDoor
open Go.RowKit Go.Sort
open Idn (L B Bs drop_L take_L size_L)
end Go.Proofs.YtgjllfonmgfhgaaGreatDoor
/- entry: the order of Normal: slices.SortFunc at attributes, by their names in lower case. -/
namespace Go.Proofs.YtgjllfonmgfhgaaGreatDoor
open Go.RowKit Go.Sort
open Idn (L B Bs drop_L take_L size_L)

/-- an owned row of attributes whose values lie where they like -/
def RowV (w : World) (base : Nat) (v : Value) (ps : List (Idn.Att × Value)) : Prop :=
  w.ownsRow base 90 2 v ps.length (rowA ps) ∧ ∀ p ∈ ps, ∃ A c, p.2 = .slice A p.1.vals.length c
end Go.Proofs.YtgjllfonmgfhgaaGreatDoor
/- Plain functions: what the layer filter computes. -/
namespace Go.Proofs.YtgjllfonmgfhgaaGreatDoor
open Go.RowKit Go.Sort
open Idn (L B Bs)
inductive Flt where
  | mk (kind : Int) (name value : Bs) (parts : List Bs) (kids : List Flt)
namespace Flt
def kind : Flt → Int | .mk k _ _ _ _ => k
def name : Flt → Bs | .mk _ n _ _ _ => n
def value : Flt → Bs | .mk _ _ v _ _ => v
def parts : Flt → List Bs | .mk _ _ _ p _ => p
def kids : Flt → List Flt | .mk _ _ _ _ l => l
end Flt
mutual
def fSize : Flt → Nat
  | .mk _ _ _ _ ks => fSizes ks + 1
def fSizes : List Flt → Nat
  | [] => 0
  | f :: l => fSize f + fSizes l
end
mutual
def fDep : Flt → Nat
  | .mk _ _ _ _ ks => fDeps ks + 1
def fDeps : List Flt → Nat
  | [] => 0
  | f :: l => max (fDep f) (fDeps l)
end
def isCmp (k : Int) : Bool := decide (4 ≤ k) && decide (k ≤ 8)
def prtF (s : Bs) : Bool := s.all Idn.printable && decide (s.length ≤ 256)
def partsF (l : List Bs) : Bool := decide (2 ≤ l.length) && (decide (l.length ≤ 16) && (!((l.drop 1).dropLast.contains []) && l.any fun s => !s.isEmpty))
def formF (k : Int) (n v : Bs) (ps : List Bs) (m : Nat) : Bool :=
  if k = 1 ∨ k = 2 then n.isEmpty && (v.isEmpty && ps.isEmpty)
  else if k = 3 then n.isEmpty && (v.isEmpty && (ps.isEmpty && decide (m = 1)))
  else if k = 4 ∨ k = 5 ∨ k = 6 then ps.isEmpty && decide (m = 0)
  else if k = 7 then v.isEmpty && (ps.isEmpty && decide (m = 0))
  else if k = 8 then v.isEmpty && (decide (m = 0) && partsF ps)
  else false
def ownErr (k : Int) (n v : Bs) (ps : List Bs) (m : Nat) : Int :=
  if !formF k n v ps m then 4 else if isCmp k then (if !Idn.name n then 5 else if (decide (k ≤ 6) && !Idn.clean v) || ps.any fun s => !prtF s then 8 else 0) else 0
mutual
def nodeErr : Flt → Int
  | .mk k n v ps ks => if ownErr k n v ps ks.length != 0 then ownErr k n v ps ks.length else nodeErrs ks
def nodeErrs : List Flt → Int
  | [] => 0
  | f :: l => if nodeErr f != 0 then nodeErr f else nodeErrs l
end
def fCheck (f : Flt) : Int := if 64 < fSize f ∨ 8 < fDep f then 3 else nodeErr f
mutual
def fNamed : Flt → List Bs
  | .mk k n _ _ ks => (if isCmp k then [Idn.lower n] else []) ++ fNameds ks
def fNameds : List Flt → List Bs
  | [] => []
  | f :: l => fNamed f ++ fNameds l
end
def fNames (f : Flt) : List Bs := if fCheck f != 0 then [] else Idn.insAll (fNamed f)
def notF (f : Flt) : Flt := .mk 3 [] [] [] [f]
end Go.Proofs.YtgjllfonmgfhgaaGreatDoor
/- Plain laws of filters: induction, lists of kids, negations moved inward. -/
namespace Go.Proofs.YtgjllfonmgfhgaaGreatDoor
open Go.RowKit Go.Sort
open Idn (L B Bs)
theorem fSize_mem {f : Flt} : ∀ {l : List Flt}, f ∈ l → fSize f ≤ fSizes l
  | g :: l, h => by
    rw [fSizes]
    rcases List.mem_cons.1 h with rfl | h
    · omega
    · have := fSize_mem h; omega
theorem Flt.ind {p : Flt → Prop} (h : ∀ k n v ps ks, (∀ f ∈ ks, p f) → p (.mk k n v ps ks)) : ∀ f, p f := by
  have key : ∀ (m : Nat) (f : Flt), fSize f ≤ m → p f := by
    intro m
    induction m with
    | zero => intro f hf; cases f; rw [fSize] at hf; omega
    | succ m ih =>
      intro f hf
      cases f with
      | mk k n v ps ks =>
        refine h k n v ps ks fun g hg => ih g ?_
        have := fSize_mem hg
        rw [fSize] at hf; omega
  exact fun f => key _ f (Nat.le_refl _)
theorem fSize_pos (f : Flt) : 0 < fSize f := by cases f; rw [fSize]; omega
theorem nodeErrs_zero {l : List Flt} : nodeErrs l = 0 ↔ ∀ f ∈ l, nodeErr f = 0 := by
  induction l with
  | nil => simp [nodeErrs]
  | cons g l ih =>
    rw [nodeErrs, List.forall_mem_cons, ← ih]
    by_cases h : nodeErr g = 0 <;> simp [h]
theorem nodeErr_zero {k : Int} {n v : Bs} {ps : List Bs} {ks : List Flt} : nodeErr (.mk k n v ps ks) = 0 ↔ ownErr k n v ps ks.length = 0 ∧ ∀ f ∈ ks, nodeErr f = 0 := by
  rw [nodeErr, ← nodeErrs_zero]
  by_cases h : ownErr k n v ps ks.length = 0 <;> simp [h]
theorem ownErr_form {k : Int} {n v : Bs} {ps : List Bs} {m : Nat} (h : ownErr k n v ps m = 0) : formF k n v ps m = true := by
  unfold ownErr at h
  by_cases hf : formF k n v ps m = true
  · exact hf
  · simp [hf] at h
theorem form_kind {k : Int} {n v : Bs} {ps : List Bs} {m : Nat} (h : formF k n v ps m = true) : 1 ≤ k ∧ k ≤ 8 := by
  unfold formF at h
  split at h
  · omega
  · split at h
    · omega
    · split at h
      · omega
      · split at h
        · omega
        · split at h
          · omega
          · cases h
theorem form_set {k : Int} {n v : Bs} {ps : List Bs} {m : Nat} (h : formF k n v ps m = true) (hk : k = 1 ∨ k = 2) : n = [] ∧ v = [] ∧ ps = [] := by
  unfold formF at h
  rw [if_pos hk] at h
  simpa using h
theorem form_not {n v : Bs} {ps : List Bs} {m : Nat} (h : formF 3 n v ps m = true) : n = [] ∧ v = [] ∧ ps = [] ∧ m = 1 := by
  unfold formF at h
  rw [if_neg (by omega), if_pos rfl] at h
  simpa using h
theorem form_leaf {k : Int} {n v : Bs} {ps : List Bs} {m : Nat} (h : formF k n v ps m = true) (hk : isCmp k = true) : m = 0 := by
  unfold isCmp at hk
  simp only [Bool.and_eq_true, decide_eq_true_eq] at hk
  unfold formF at h
  rw [if_neg (by omega), if_neg (by omega)] at h
  split at h
  · simp at h; exact h.2
  · split at h
    · simp at h; exact h.2.2
    · rw [if_pos (by omega)] at h
      simp at h; exact h.2.1
theorem cmp_kind {k : Int} (h : isCmp k = true) : k ≠ 1 ∧ k ≠ 2 ∧ k ≠ 3 ∧ 4 ≤ k ∧ k ≤ 8 := by
  unfold isCmp at h
  simp only [Bool.and_eq_true, decide_eq_true_eq] at h
  omega
theorem kind_cases {k : Int} (h1 : 1 ≤ k) (h2 : k ≤ 8) : k = 3 ∨ isCmp k = true ∨ ((k = 1 ∨ k = 2) ∧ isCmp k = false) := by
  unfold isCmp
  simp only [Bool.and_eq_true, decide_eq_true_eq, Bool.and_eq_false_iff, decide_eq_false_iff_not]
  omega
end Go.Proofs.YtgjllfonmgfhgaaGreatDoor
/- Filters in memory: a value of api.Filter that reads as a filter; d bounds the depth of its kids. -/
namespace Go.Proofs.YtgjllfonmgfhgaaGreatDoor
open Go.RowKit Go.Sort
open Idn (L B Bs drop_L take_L size_L)
def FltC (w : World) (hi : Nat) : Nat → Flt → List Value → Prop
  | 0, _, _ => False
  | d + 1, f, cs => ∃ pv kv, cs = [.int .i64 f.kind, sv f.name, sv f.value, pv, kv] ∧ StrsV w hi pv f.parts ∧ SlV (FltC w hi d) w hi 5 kv f.kids
abbrev FltsV (w : World) (hi d : Nat) (v : Value) (l : List Flt) : Prop := SlV (FltC w hi d) w hi 5 v l
def FltV (w : World) (hi d : Nat) (v : Value) (f : Flt) : Prop :=
  ∃ pv kv, v = .agg #[.int .i64 f.kind, .string (B f.name), .string (B f.value), pv, kv] ∧ StrsV w hi pv f.parts ∧ FltsV w hi d kv f.kids
theorem FltC.keep {w w' : World} {hi : Nat} (hb : Below hi w w') : ∀ {d : Nat} {f : Flt} {cs : List Value}, FltC w hi d f cs → FltC w' hi d f cs
  | 0, _, _, h => h
  | d + 1, _, _, h => by
    obtain ⟨pv, kv, h1, h2, h3⟩ := h
    exact ⟨pv, kv, h1, SlV.keep h2 hb, SlV.keepE h3 hb fun _ _ _ he => FltC.keep hb he⟩
theorem FltC.mono {w : World} {hi hi' : Nat} (hh : hi ≤ hi') : ∀ {d : Nat} {f : Flt} {cs : List Value}, FltC w hi d f cs → FltC w hi' d f cs
  | 0, _, _, h => h
  | d + 1, _, _, h => by
    obtain ⟨pv, kv, h1, h2, h3⟩ := h
    exact ⟨pv, kv, h1, SlV.mono h2 hh, SlV.mono (SlV.keepE h3 (Below.refl _ _) fun _ _ _ he => FltC.mono hh he) hh⟩
theorem FltsV.keep {w w' : World} {hi d : Nat} {v : Value} {l : List Flt} (h : FltsV w hi d v l) (hb : Below hi w w') : FltsV w' hi d v l := SlV.keepE h hb fun _ _ _ he => FltC.keep hb he
theorem FltsV.mono {w : World} {hi hi' d : Nat} {v : Value} {l : List Flt} (h : FltsV w hi d v l) (hh : hi ≤ hi') : FltsV w hi' d v l :=
  SlV.mono (SlV.keepE h (Below.refl _ _) fun _ _ _ he => FltC.mono hh he) hh
theorem FltV.keep {w w' : World} {hi d : Nat} {v : Value} {f : Flt} (h : FltV w hi d v f) (hb : Below hi w w') : FltV w' hi d v f := by
  obtain ⟨pv, kv, h1, h2, h3⟩ := h
  exact ⟨pv, kv, h1, SlV.keep h2 hb, FltsV.keep h3 hb⟩
theorem FltV.mono {w : World} {hi hi' d : Nat} {v : Value} {f : Flt} (h : FltV w hi d v f) (hh : hi ≤ hi') : FltV w hi' d v f := by
  obtain ⟨pv, kv, h1, h2, h3⟩ := h
  exact ⟨pv, kv, h1, SlV.mono h2 hh, FltsV.mono h3 hh⟩
/-- a filter carried on to a later world -/
theorem FltV.on {w w' : World} {d : Nat} {v : Value} {f : Flt} (h : FltV w w.heap.size d v f) (hb : Below w.heap.size w w') : FltV w' w'.heap.size d v f := FltV.mono (FltV.keep h hb) hb.size
theorem FltsV.on {w w' : World} {d : Nat} {v : Value} {l : List Flt} (h : FltsV w w.heap.size d v l) (hb : Below w.heap.size w w') : FltsV w' w'.heap.size d v l := FltsV.mono (FltsV.keep h hb) hb.size
/-- a kid: its five cells, and it reads -/
theorem FltsV.cell {w : World} {hi d : Nat} {A : Option Addr} {n c : Nat} {l : List Flt} (h : FltsV w hi d (.slice A n c) l) {k : Nat} (hk : k < l.length) :
    ∃ b off pv kv, A = some ⟨b, off, none⟩ ∧ b < hi ∧ w.cell? ⟨b, off + k * 5, none⟩ = some (.int .i64 l[k].kind) ∧ w.cell? ⟨b, off + k * 5 + 1, none⟩ = some (.string (B l[k].name)) ∧ w.cell? ⟨b, off + k * 5 + 2, none⟩ = some (.string (B l[k].value)) ∧
      w.cell? ⟨b, off + k * 5 + 3, none⟩ = some pv ∧ w.cell? ⟨b, off + k * 5 + 4, none⟩ = some kv ∧ 0 < d ∧ StrsV w hi pv l[k].parts ∧ FltsV w hi (d - 1) kv l[k].kids := by
  obtain ⟨b, off, hA, hb, cs, h1, h2, h3⟩ := h.at_ hk
  cases d with
  | zero => exact h2.elim
  | succ d =>
    obtain ⟨pv, kv, rfl, hp, hq⟩ := h2
    exact ⟨b, off, pv, kv, hA, hb, by simpa using h3 0 _ rfl, by simpa [sv, Nat.add_assoc] using h3 1 _ rfl, by simpa [sv, Nat.add_assoc] using h3 2 _ rfl, by simpa [Nat.add_assoc] using h3 3 _ rfl, by simpa [Nat.add_assoc] using h3 4 _ rfl, by omega, hp, by simpa using hq⟩
end Go.Proofs.YtgjllfonmgfhgaaGreatDoor
/- One block that a reader turns: what reads with the block emptied reads whatever the block holds. -/
namespace Go.Proofs.YtgjllfonmgfhgaaGreatDoor
open Go.RowKit Go.Sort
open Idn (L B Bs drop_L take_L size_L)
section
variable {w w' : World} {b : Nat}
end
end Go.Proofs.YtgjllfonmgfhgaaGreatDoor
/- Plain functions: what the layer index computes. -/
namespace Go.Proofs.YtgjllfonmgfhgaaGreatDoor
open Go.RowKit Go.Sort
open Idn (L B Bs)
/-- an entry that an index holds: its name, its attributes in order -/
abbrev IxE := Bs × List Idn.Att
/-- the normal forms of an entry's valid values -/
def nV (s : Idn.Sch) (a : Bs) (A : List Idn.Att) : List Bs := (rGet A a).filterMap fun v => if (sNorm s a v).2 = 0 then some (sNorm s a v).1 else none
/-- New: the names in lower case, or the first error -/
def ixNew (s : Idn.Sch) : List Bs → List Bs → Int × List Bs
  | [], acc => (0, acc)
  | n :: l, acc => if !(tyLook (sound s) n).2 then (6, []) else if acc.contains (Idn.lower n) then (7, []) else ixNew s l (acc ++ [Idn.lower n])
/-- an entry put into its place -/
def insE (n : Bs) (A : List Idn.Att) : List IxE → List IxE
  | [] => [(n, A)]
  | x :: l => if cmpNm x.1 n < 0 then x :: insE n A l else if x.1 = n then (n, A) :: l else (n, A) :: x :: l
def hasE (es : List IxE) (n : Bs) : Bool := es.any fun e => e.1 == n
def ixPut (es : List IxE) (n : Bs) (A : List Idn.Att) : Int × List IxE :=
  if n.isEmpty || !validN n then (5, es) else if Idn.aCheck A != 0 then (Idn.aCheck A, es) else if !hasE es n && decide (256 ≤ es.length) then (3, es) else (0, insE n (Idn.rSorted A) es)
def ixDrop (es : List IxE) (n : Bs) : List IxE := es.filter fun e => e.1 != n
/-- a value on one side of a bound; an empty bound is none -/
def inB (s : Idn.Sch) (a v b : Bs) (side : Int) : Bool := b.isEmpty || (decide ((sComp s a v b).2 = 0) && decide (0 ≤ (sComp s a v b).1 * side))
def ixRange (s : Idn.Sch) (idx : List Bs) (es : List IxE) (a low hi : Bs) : List Bs × Bool :=
  if !idx.contains (Idn.lower a) then ([], false) else ((es.filter fun e => (nV s a e.2).any fun v => inB s a v low 1 && inB s a v hi (-1)).map (·.1), true)
def ixFind (s : Idn.Sch) (idx : List Bs) (es : List IxE) (a x : Bs) : List Bs × Bool :=
  if !idx.contains (Idn.lower a) then ([], false) else if (sNorm s a x).2 != 0 then ([], true) else ((es.filter fun e => (nV s a e.2).contains (sNorm s a x).1).map (·.1), true)
def ixPres (idx : List Bs) (es : List IxE) (a : Bs) : List Bs × Bool :=
  if !idx.contains (Idn.lower a) then ([], false) else ((es.filter fun e => decide (0 < (rGet e.2 a).length)).map (·.1), true)
def ixBound (s : Idn.Sch) (idx : List Bs) (es : List IxE) (k : Int) (a x : Bs) : List Bs × Bool :=
  if !idx.contains (Idn.lower a) then ([], false) else if x.isEmpty then ([], true) else if k = 5 then ixRange s idx es a x [] else ixRange s idx es a [] x
/-- the shortest of the lists that can be told, the first of them -/
def bestC : List (List Bs × Bool) → List Bs × Bool → List Bs × Bool
  | [], b => b
  | c :: l, b => bestC l (if c.2 && (!b.2 || decide (c.1.length < b.1.length)) then (c.1, true) else b)
def someC (es : List IxE) (l : List (List Bs × Bool)) : List Bs × Bool := if l.all (·.2) then ((es.map (·.1)).filter fun n => l.any fun c => c.1.contains n, true) else ([], false)
mutual
def ixCand (s : Idn.Sch) (idx : List Bs) (es : List IxE) : Flt → List Bs × Bool
  | .mk k n v _ ks => if k = 4 then ixFind s idx es n v else if k = 5 ∨ k = 6 then ixBound s idx es k n v else if k = 7 then ixPres idx es n
    else if k = 1 then bestC (ixCands s idx es ks) ([], false) else if k = 2 then someC es (ixCands s idx es ks) else ([], false)
def ixCands (s : Idn.Sch) (idx : List Bs) (es : List IxE) : List Flt → List (List Bs × Bool)
  | [] => []
  | f :: l => ixCand s idx es f :: ixCands s idx es l
end
end Go.Proofs.YtgjllfonmgfhgaaGreatDoor
/- attrs: Sorted, at attributes that may have no values. -/
namespace Go.Proofs.YtgjllfonmgfhgaaGreatDoor
open Go.RowKit Go.Sort
open Idn (L B Bs drop_L take_L size_L)

theorem sorted2_pred (g : Nat) (w : World) : PredG g 94 #[] (fun x => ((x.2 : Nat) : Int) == 0) w := fun W x A c _ => sorted2_any x.1 A x.2 c W
theorem full_map (ps : List (Idn.Att × Value)) : (ps.filter fun q => !((((nmA q).2 : Nat) : Int) == 0)).map (·.1) = (ps.map (·.1)).filter Idn.full := by
  rw [List.filter_map]
  congr 1
  refine List.filter_congr fun q _ => ?_
  show (!((q.1.vals.length : Int) == 0)) = decide (q.1.vals.length ≠ 0)
  by_cases h : q.1.vals.length = 0
  · rw [h]; rfl
  · rw [decide_eq_true h]
    have : ((q.1.vals.length : Int) == 0) = false := by rw [beq_eq_false_iff_ne]; omega
    rw [this]; rfl
set_option maxHeartbeats 2000000 in
set_option maxRecDepth 100000 in
theorem sortedG_any (v : Value) (l : List Idn.Att) (w : World) (hv : AttsV w w.heap.size v l) (hs : Idn.ASm7 l) :
    Calls Tryz.prog 50 #[v] w fun e w' => ∃ v' ps, e = .returned v' ∧ AttOwn w' w.heap.size v' ps ∧ ps.map (·.1) = Idn.rSorted l ∧ Below w.heap.size w w' := by
  obtain ⟨A, c, rfl, hc⟩ := SlV.shape hv
  have hl1 := hs.1
  go_enter Tryz.func50, Tryz.ntmps50
  go_upto_block 0 with fail
  go_cut [3] (fun u wx => ∃ ps, AttOwn wx w.heap.size u ps ∧ Below w.heap.size w wx ∧ Hid (ps.map (·.1) = Idn.grp [] l) ∧ ps.length ≤ 1000 ∧ ∀ p ∈ ps, p.1.vals.length ≤ 1000000000)
  case first =>
    go_wp2_with fail
    go_loopw [3, 11] (fun u i wr => ∃ (k : Nat) (ps : List (Idn.Att × Value)), k ≤ l.length ∧ i = .int .i64 k ∧ AttOwn wr w.heap.size u ps ∧ Below w.heap.size w wr ∧ Hid (Idn.grp (ps.map (·.1)) (l.drop k) = Idn.grp [] l) ∧ ps.length ≤ k ∧ ∀ p ∈ ps, p.1.vals.length ≤ k * 1100000) (fun _ i _ => l.length - (intOf i).toNat)
    case atStart => exact ⟨0, [], Nat.zero_le _, rfl, AttOwn.nil _ _, Below.refl _ _, rfl, Nat.le_refl _, by simp⟩
    case round =>
      obtain ⟨k, ps, hk, rfl, hown, hb, hinv, hpl, hpv⟩ := hrel
      by_cases hlt : k < l.length
      · obtain ⟨b, off, va, rfl, hbl, c0, c1, hva⟩ := AttsV.cell hv hlt
        obtain ⟨Av, cv, rfl, hcv⟩ := SlV.shape hva
        replace c0 := (hb.cell (p := ⟨b, off + k * 2, none⟩) hbl).trans c0
        replace c1 := (hb.cell (p := ⟨b, off + k * 2 + 1, none⟩) hbl).trans c1
        have hltI : (k : Int) < (l.length : Int) := by omega
        obtain ⟨hn9, hv9, _⟩ := hs.2 l[k] (List.getElem_mem hlt)
        have hL := fun W => lower_any (B l[k].name) W (by rw [Idn.size_B]; omega)
        rw [Idn.L_B] at hL
        have hstep := Idn.grp_step l k hlt (ps.map (·.1))
        generalize Idn.lower l[k].name = nm at *
        obtain ⟨wo, hwo⟩ : ∃ wo : World, wo = wr := ⟨_, rfl⟩
        subst hwo
        go_wp2_with fail
        with_reducible refine gen1 (R := fun W => Calls Tryz.prog 83 _ W _) ?_
        intro W hbW hszW hc1 _
        have d0 : W.cell? ⟨wo.heap.size, 0, none⟩ = some (.string (B l[k].name)) := hc1 0 _ rfl
        have d1 : W.cell? ⟨wo.heap.size, 1, none⟩ = some (.slice Av l[k].vals.length cv) := hc1 1 _ rfl
        clear hc1 hszW c0 c1
        refine (hL W).mono ?_
        rintro e w1 ⟨rfl, hb1⟩
        clear hL
        have hbo1 := hbW.trans (hb1.mono hbW.size)
        replace d1 := cell_later hb1 d1
        have hown1 := hown.keep hbo1
        have hlo := fun g => own_lt hown.1 (g := g)
        clear hown d0
        obtain ⟨Au, cu, hu⟩ := own_shape hown1.1
        rw [hu] at hlo
        subst hu
        go_wp2_with fail
        with_reducible refine gen1 (R := fun W => Calls Tryz.prog 91 _ W _) ?_
        intro W2 hbW2 hszW2 hc2 _
        have q0 : W2.cell? ⟨w1.heap.size, 0, none⟩ = some (.string (B nm)) := hc2 0 _ rfl
        clear hc2
        have hI := idxA_any 92 #[.pointer (some ⟨w1.heap.size, 0, none⟩)] fn_sorted1 _ _ _ W2 (hown1.keep hbW2).names (by rw [List.length_map]; omega) (sorted1_any.pred w1.heap.size (B nm) _ W2 q0)
        rw [Idn.L_B] at hI
        have hix : idxP (fun x : Bs × Nat => decide (x.1 = nm)) (ps.map fun p => (p.1.name, p.1.vals.length)) = idxP (fun a : Idn.Att => decide (a.name = nm)) (ps.map (·.1)) := by unfold idxP; rw [ixAdd]
        rw [hix] at hI
        clear hix
        refine hI.mono ?_
        rintro e w2 ⟨rfl, hb2⟩
        have hb12 := hbW2.trans (hb2.mono hbW2.size)
        have hown2 := hown1.keep hb12
        have q2 := cell_later hb2 q0
        have d2 := cell_later hb12 d1
        have hbo2 := hbo1.trans (hb12.mono hbo1.size)
        have hbw2 := hb.trans (hbo2.mono hb.size)
        clear hI hown1 d1 q0 hszW2
        go_upto_if 22 with fail
        go_cut [3, 7] (fun u i wx => ∃ (qs : List (Idn.Att × Value)) (j : Nat) (p : Idn.Att × Value), i = .int .i64 j ∧ AttOwn wx w.heap.size u qs ∧ qs[j]? = some p ∧ Hid ((qs.map (·.1)).set j ⟨p.1.name, p.1.vals ++ l[k].vals⟩ = Idn.addA (ps.map (·.1)) nm l[k].vals) ∧ qs.length ≤ k + 1 ∧ (∀ p ∈ qs, p.1.vals.length ≤ k * 1100000) ∧ Below w.heap.size w wx ∧ wx.cell? ⟨wo.heap.size, 1, none⟩ = some (.slice Av l[k].vals.length cv))
        case first =>
          cases hx : (ps.map (·.1)).findIdx? (fun a => decide (a.name = nm)) with
          | none =>
            have hAd := Idn.addA_none l[k].vals hx
            rw [idxP_none hx]
            clear hx
            go_wp2_with (at_builtin; refine wpList_push w2 rfl _ _ 39 rfl w.heap.size 90 (.agg #[.string ⟨#[]⟩, .slice none 0 0]) 2 40 Tryz.underlying39 info_attr rfl (by decide) _ ps.length _ hown2.1 rfl [.string (B nm), .slice none 0 0] rfl rfl (by intro u hu; simp at hu; rcases hu with rfl | rfl <;> rfl) (by omega) hbw2.size ?_ rfl)
            intro v' w3 hown3 hg3 hat3 hb3 _
            have hP := hown2.push (n := nm) hown3 hg3
            have d3 : w3.cell? ⟨wo.heap.size, 1, none⟩ = some (.slice Av l[k].vals.length cv) := by
              rw [World.cell?_of_block (w := w2) (hg3.block wo.heap.size (World.block_lt_of_cell? _ _ d2) (fun e => by have := hlo _ e.symm; omega))]
              exact d2
            have HS : Hid (((ps ++ [((⟨nm, []⟩ : Idn.Att), Value.slice none 0 0)]).map (·.1)).set ps.length ⟨nm, [] ++ l[k].vals⟩ = Idn.addA (ps.map (·.1)) nm l[k].vals) := by
              show _ = _
              rw [hAd, List.map_append, List.set_append_right _ _ (by simp)]
              simp
            clear hAd
            go_wp2_with fail
            go_meet
            refine ⟨_, ps.length, (⟨nm, []⟩, .slice none 0 0), rfl, hP, by simp, HS, by simp; omega, ?_, hbw2.trans hb3, d3⟩
            intro p hp
            rcases List.mem_append.1 hp with hp | hp
            · exact hpv p hp
            · simp at hp; subst hp; simp
          | some j =>
            have hjl : j < (ps.map (·.1)).length := (List.findIdx?_eq_some_iff_getElem.1 hx).1
            have hAd := Idn.addA_some l[k].vals hx hjl
            rw [idxP_some hx]
            have hj0 : ¬ ((j : Int) < 0) := by omega
            rw [List.length_map] at hjl
            have HS : Hid ((ps.map (·.1)).set j ⟨ps[j].1.name, ps[j].1.vals ++ l[k].vals⟩ = Idn.addA (ps.map (·.1)) nm l[k].vals) := by
              show _ = _
              rw [hAd]; simp
            clear hx hAd
            go_wp2_with fail
            go_meet
            exact ⟨ps, j, ps[j], rfl, hown2, List.getElem?_eq_getElem hjl, HS, by omega, hpv, hbw2, d2⟩
        case rest =>
          obtain ⟨qs, j, p, rfl, hownc, hpj, hset, hql, hqv, hbc, d3⟩ := hcut
          have hjl := (List.getElem?_eq_some_iff.1 hpj).1
          obtain ⟨g, cap, hu, _, hgl⟩ := hownc.1.form (by omega)
          subst hu
          have hjI : (j : Int) < (qs.length : Int) := by omega
          obtain ⟨Ap, cp, hup⟩ := own_shape (hownc.2.1 p (List.mem_of_getElem? hpj))
          have hcells : wc.cell? ⟨g, j * 2 + 1, none⟩ = some (.slice Ap p.1.vals.length cp) := by
            have e : ∀ j, ((⟨g, 0, none⟩ : Addr).add j) = ⟨g, j, none⟩ := fun j => by unfold Addr.add; split <;> simp_all
            have := hownc.1.cells (g := g) rfl _ _ (rowA_at qs j p hpj).2
            rw [e, hup] at this
            exact this
          have hownd : AttOwn wc.drew w.heap.size (.slice (some ⟨g, 0, none⟩) qs.length cap) qs := hownc
          have hownp : wc.drew.ownsRow w.heap.size 9 1 (.slice Ap p.1.vals.length cp) p.1.vals.length (p.1.vals.map sv) := by
            have := hownc.2.1 p (List.mem_of_getElem? hpj)
            rw [hup] at this
            exact this
          have hvd : StrsV wc.drew w.heap.size (.slice Av l[k].vals.length cv) l[k].vals := by
            have : StrsV wc w.heap.size (.slice Av l[k].vals.length cv) l[k].vals := SlV.keep hva hbc
            exact this
          have hbd : w.heap.size ≤ wc.drew.heap.size := hbc.size
          have hpk := hqv p (List.mem_of_getElem? hpj)
          have hkk : k * 1100000 ≤ 900 * 1100000 := Nat.mul_le_mul_right _ (by omega)
          clear hownc hown2 hb12 hb1 hbW hbo1 hbo2 hbw2 hb2 hbW2 q2 d2
          go_wp2_with fail
          go_region_law (refine step_appendS rfl _ _ 26 rfl w.heap.size 9 Tryz.underlying26 info_str _ _ _ hownp rfl _ l[k].vals _ hvd rfl (by omega) hbd ?_; intro v' w' hown' hg' hat'; obtain ⟨st1, st2, hnew⟩ := hownd.grow hpj hown' (by rw [hup]; exact hg') (by rw [hup]; exact hat'); rw [hup] at st1; obtain ⟨A9, c9, hv9⟩ := own_shape hown'; subst hv9)
          all_goals
            have hHF : Hid (Idn.grp ((qs.set j (⟨p.1.name, p.1.vals ++ l[k].vals⟩, .slice A9 (p.1.vals.length + l[k].vals.length) c9)).map (·.1)) (l.drop (k + 1)) = Idn.grp [] l) := by
              show _ = _
              rw [List.map_set, hset.out, ← hstep]; exact hinv.out
            have hgb : w.heap.size ≤ g := (hownd.1.lt g rfl).1
            have hbf : Below w.heap.size w (w'.setCell ⟨g, j * 2 + 1, none⟩ (.slice A9 (p.1.vals.length + l[k].vals.length) c9)) :=
              (((hbc.drew).grown hg' hbc.size (fun k' hk' => (hownp.lt k' hk').1))).setCell (p := ⟨g, j * 2 + 1, none⟩) hgb _
            go_wp2_with fail
            go_roundw
            case rel =>
              refine ⟨k + 1, _, by omega, by go_num, hnew, hbf, hHF, by rw [List.length_set]; exact hql, fun q hq => ?_⟩
              rcases List.mem_or_eq_of_mem_set hq with hq | rfl
              · exact Nat.le_trans (hqv q hq) (Nat.mul_le_mul_right _ (Nat.le_succ k))
              · show (p.1.vals ++ l[k].vals).length ≤ _; rw [List.length_append, Nat.succ_mul]; exact Nat.add_le_add hpk hv9
            case measure => simp [intOf]; omega
      · have hltI : ¬ (k : Int) < (l.length : Int) := by omega
        have HF : Hid (ps.map (·.1) = Idn.grp [] l) := by show _ = _; rw [← hinv.out, List.drop_eq_nil_of_le (by omega)]; rfl
        go_wp2_with fail
        go_meet
        refine ⟨ps, hown, hb, HF, by omega, fun p hp => ?_⟩
        have := hpv p hp
        have : k * 1100000 ≤ 900 * 1100000 := Nat.mul_le_mul_right _ (by omega)
        omega
  case rest =>
    obtain ⟨ps0, hown0, hb, hps0, hpl0, hpv0⟩ := hcut
    have hD := delA_any 94 #[] fn_sorted2 (fun x => ((x.2 : Nat) : Int) == 0) w.heap.size _ ps0 wc hown0 hb.size (by omega) (fun g _ => sorted2_pred g wc)
    have hps1 := full_map ps0
    have hne0 : ∀ p ∈ (ps0.filter fun q => !((((nmA q).2 : Nat) : Int) == 0)), p.1.vals.length ≠ 0 := fun p hp h0 => by
      have := (List.mem_filter.1 hp).2
      unfold nmA at this
      rw [h0] at this
      simp at this
    have hpl1 : (ps0.filter fun q => !((((nmA q).2 : Nat) : Int) == 0)).length ≤ 1000 := Nat.le_trans (List.length_filter_le _ _) hpl0
    have hpv1 : ∀ p ∈ (ps0.filter fun q => !((((nmA q).2 : Nat) : Int) == 0)), p.1.vals.length ≤ 1000000000 := fun p hp => hpv0 p (List.mem_filter.1 hp).1
    rw [hps0.out] at hps1
    generalize (ps0.filter fun q => !((((nmA q).2 : Nat) : Int) == 0)) = ps at *
    have hps := Lib.hid hps1
    have hne' := hne0
    have hpl := hpl1
    have hpv := hpv1
    obtain ⟨Au0, cu0, hu0⟩ := own_shape hown0.1
    subst hu0
    clear hown0 hps0 hpl0 hpv0 hps1 hne0 hpl1 hpv1
    go_wp2_with fail
    refine hD.mono ?_
    rintro e w1 ⟨v1, rfl, hown1, hb1⟩
    have hbw1 := hb.trans hb1
    obtain ⟨Au, cu, hu⟩ := own_shape hown1.1
    subst hu
    clear hD
    go_upto_block 2 with fail
    go_cut [] (fun wx => ∃ qs, AttOwn wx w.heap.size (.slice Au ps.length cu) qs ∧ Below w.heap.size w wx ∧ Hid (qs.map (·.1) = (ps.map (·.1)).map Idn.normA) ∧ qs.length = ps.length)
    case first =>
      go_wp2_with fail
      go_loopw [8, 47] (fun _ i wr => ∃ (k : Nat) (qs : List (Idn.Att × Value)), k ≤ ps.length ∧ i = .int .i64 k ∧ AttOwn wr w.heap.size (.slice Au ps.length cu) qs ∧ Below w.heap.size w wr ∧ Hid (qs.map (·.1) = ((ps.map (·.1)).take k).map Idn.normA ++ (ps.map (·.1)).drop k) ∧ qs.length = ps.length) (fun _ i _ => ps.length - (intOf i).toNat)
      case atStart => exact ⟨0, ps, Nat.zero_le _, rfl, hown1, hbw1, by show _ = _; simp, rfl⟩
      case round =>
        obtain ⟨k, qs, hk, rfl, hown, hbr, hinv, hql⟩ := hrel
        by_cases hlt : k < ps.length
        · have hltI : (k : Int) < (ps.length : Int) := by omega
          obtain ⟨q, hqk⟩ : ∃ q, qs[k]? = some q := ⟨_, List.getElem?_eq_getElem (by omega)⟩
          obtain ⟨g, cap, hu, _, hgl⟩ := hown.1.form (by omega)
          injection hu with hu1 hu2 hu3
          subst hu1 hu3
          have hqm : q ∈ qs := List.mem_of_getElem? hqk
          have hq1 : q.1 = ps[k].1 := by
            have := congrArg (·[k]?) hinv.out
            simp only [List.getElem?_map, hqk, Option.map_some] at this
            rw [List.getElem?_append_right (by simp; omega)] at this
            simp [hlt, Nat.min_eq_left (Nat.le_of_lt hlt)] at this
            exact this
          have hpm : ps[k] ∈ ps := List.getElem_mem _
          have hvn := hne' _ hpm
          have hvb := hpv _ hpm
          obtain ⟨k0, k1, kf, kb⟩ := hown.cell hqk
          have hou := hown.2.1 _ hqm
          rw [hq1] at hou
          obtain ⟨g1, cap1, hv1, hgb1, hg1⟩ := hou.form (by omega)
          rw [hv1] at hou k1
          have hSo := sort_own g1 cap1 ps[k].1.vals w.heap.size wr hou (by omega) hvb hbr.size
          have hHq : Hid (qs.set k (⟨ps[k].1.name, Lib.compact (sorted ps[k].1.vals)⟩, q.2) = qs.set k (⟨ps[k].1.name, Lib.compact (sorted ps[k].1.vals)⟩, q.2)) := rfl
          have HQK := Lib.hid hqk
          have HQ1 := Lib.hid hq1
          have HV1 := Lib.hid hv1
          have HQL := Lib.hid hql
          clear hHq hqk hq1 hv1 hql k0 hu2
          go_wp2_with fail
          refine hSo.mono ?_
          rintro e w2 ⟨rfl, hou2, hg2⟩
          have hsl : (sorted ps[k].1.vals).length = ps[k].1.vals.length := sorted_len _
          have hou2' : w2.ownsRow w.heap.size 9 1 (.slice (some ⟨g1, 0, none⟩) (sorted ps[k].1.vals).length cap1) (sorted ps[k].1.vals).length ((sorted ps[k].1.vals).map sv) := by rw [hsl]; exact hou2
          have hown2 := hown.turn (vals := sorted ps[k].1.vals) HQK.out (by rw [HV1.out, hsl]; exact hou2) (by rw [HV1.out]; exact hg2)
          have hk2 : (qs.set k (⟨q.1.name, sorted ps[k].1.vals⟩, q.2))[k]? = some (⟨q.1.name, sorted ps[k].1.vals⟩, q.2) := by simp [HQL.out, hlt]
          obtain ⟨_, k12, kf2, _⟩ := hown2.cell hk2
          rw [HV1.out] at k12
          have hb2 : Below w.heap.size w w2 := hbr.grown hg2 hbr.size (fun x hx => by injection hx with hx; omega)
          have hCo := compact_own g1 cap1 (sorted ps[k].1.vals) w.heap.size w2 hou2' (by rw [hsl]; omega) (by rw [hsl]; exact hvb)
          rw [hsl] at hCo
          have hgl2 : g < w2.heap.size := World.block_lt_of_cell? _ _ k12
          clear hSo hown hou2 hou2' hou kf k1 hsl
          go_wp2_with fail
          refine hCo.mono ?_
          rintro e w3 ⟨rfl, hou3, hg3⟩
          clear hCo
          obtain ⟨st1, st2, hown3⟩ := hown2.put (u' := .slice (some ⟨g1, 0, none⟩) (Lib.compact (sorted ps[k].1.vals)).length cap1) hk2 hou3 (by rw [HV1.out]; exact hg3) (.inl (by rw [HV1.out]; rfl))
          dsimp only at st1 hown3
          rw [HV1.out] at st1
          have hb3 : Below w.heap.size w w3 := hb2.grown hg3 hb2.size (fun x hx => by injection hx with hx; omega)
          have hgl3 : g < w3.heap.size := World.block_lt_of_cell? _ _ st1
          have HF : Hid (((qs.set k (⟨q.1.name, sorted ps[k].1.vals⟩, q.2)).set k (⟨q.1.name, Lib.compact (sorted ps[k].1.vals)⟩, .slice (some ⟨g1, 0, none⟩) (Lib.compact (sorted ps[k].1.vals)).length cap1)).map (·.1) = ((ps.map (·.1)).take (k + 1)).map Idn.normA ++ (ps.map (·.1)).drop (k + 1)) := by
            show _ = _
            rw [List.set_set, List.map_set, hinv.out, HQ1.out]
            have hl : k < (ps.map (·.1)).length := by simpa using hlt
            rw [List.set_append_right _ _ (by simp; omega), List.take_succ_eq_append_getElem hl, List.map_append, List.drop_eq_getElem_cons hl]
            simp [Nat.min_eq_left (Nat.le_of_lt hlt)]
            rfl
          clear hown2 hk2 k12 kf2 hou3
          go_wp2_with fail
          go_roundw
          case rel => exact ⟨k + 1, _, by omega, by go_num, hown3, hb3.setCell (p := ⟨g, k * 2 + 1, none⟩) kb _, HF, by rw [List.length_set, List.length_set]; exact HQL.out⟩
          case measure => simp [intOf]; omega
        · have hltI : ¬ (k : Int) < (ps.length : Int) := by omega
          have HF : Hid (qs.map (·.1) = (ps.map (·.1)).map Idn.normA) := by
            show _ = _
            rw [hinv.out, List.take_of_length_le (by simp; omega), List.drop_eq_nil_of_le (by simp; omega), List.append_nil]
          go_wp2_with fail
          go_meet
          exact ⟨qs, hown, hbr, HF, hql⟩
    case rest =>
      obtain ⟨qs, hown, hb, hq, hql⟩ := hcut
      have hnd : ((qs.map (·.1)).map (·.name)).Nodup := by
        rw [hq.out, Idn.norm_names, hps.out]
        exact (List.filter_sublist.map _).nodup (Idn.grp_nd l [] (by simp))
      have hS := sortA_any _ w.heap.size qs wc hown hb.size (by omega) hnd
      rw [hq.out, hps.out, Idn.sortedG_law] at hS
      clear hown
      go_wp2_with fail
      refine hS.mono ?_
      rintro e w4 ⟨rfl, qs', hown', hq', hb'⟩
      clear hS
      go_wp2_with fail
      go_ret
      exact ⟨_, qs', rfl, hown', hq', hb.trans hb'⟩
end Go.Proofs.YtgjllfonmgfhgaaGreatDoor
/- attrs: Names, Get, at attributes that may have no values. -/
namespace Go.Proofs.YtgjllfonmgfhgaaGreatDoor
open Go.RowKit Go.Sort
open Idn (L B Bs drop_L take_L size_L)

theorem rSorted_le (l : List Idn.Att) : (Idn.rSorted l).length ≤ l.length := by
  rw [← Idn.sortedG_law, List.length_mergeSort, List.length_map]
  have h1 := List.length_filter_le Idn.full (Idn.grp [] l)
  have h2 := grp_len l []
  simp only [List.length_nil, Nat.zero_add] at h2
  omega
theorem rGet_len {l : List Idn.Att} (hs : Idn.ASm7 l) (n : Bs) : (rGet l n).length ≤ 1000000000 := by
  unfold rGet
  split
  · simp
  · split
    · simp
    · rename_i a ha
      have hm := List.mem_of_getElem? ha
      rw [← Idn.sortedG_law] at hm
      obtain ⟨b, hb, rfl⟩ := List.mem_map.1 ((List.mergeSort_perm _ _).mem_iff.1 hm)
      have h1 := Lib.compact_length_le (Idn.srt b.vals)
      have h2 : (Idn.srt b.vals).length = b.vals.length := by simp [Idn.srt]
      have h3 := Idn.grp_le 1100000 l [] 0 (by simp) (fun a ha => (hs.2 a ha).2.1) b (List.mem_filter.1 hb).1
      have h4 := Nat.mul_le_mul_right 1100000 hs.1
      show (Lib.compact (Idn.srt b.vals)).length ≤ _
      omega
set_option maxHeartbeats 1000000 in
set_option maxRecDepth 100000 in
theorem getG_any (v : Value) (l : List Idn.Att) (n : ByteArray) (w : World) (hv : AttsV w w.heap.size v l) (hs : Idn.ASm7 l) (hn : n.size ≤ 1000000000) :
    Calls Tryz.prog 99 #[v, .string n] w fun e w' => ∃ A c, e = .returned (.slice A (rGet l (L n)).length (rGet l (L n)).length) ∧ w'.ownsRow w.heap.size 9 1 (.slice A (rGet l (L n)).length c) (rGet l (L n)).length ((rGet l (L n)).map sv) ∧ Below w.heap.size w w' := by
  have hS := sortedG_any v l w hv hs
  have hgl := rSorted_le l
  have hl1 := hs.1
  have hres : Hid (rGet l (L n) = match (Idn.rSorted l).findIdx? (fun a => decide (a.name = Idn.lower (L n))) with
    | none => []
    | some k => match (Idn.rSorted l)[k]? with | none => [] | some a => a.vals) := rfl
  have hbd := rGet_len hs (L n)
  generalize rGet l (L n) = res at *
  generalize Idn.rSorted l = q at *
  have hq : q.length ≤ 1000 := by omega
  obtain ⟨A0, c0, rfl, hc0⟩ := SlV.shape hv
  clear hv hs hgl
  go_enter Tryz.func99, Tryz.ntmps99
  go_wp2_with fail
  refine hS.mono ?_
  rintro e w1 ⟨v1, ps, rfl, hown, hpq, hb1⟩
  have hpl : ps.length = q.length := by rw [← hpq, List.length_map]
  have hF := find_any v1 q n w1 (hown.atts hpq) (by omega) hn
  obtain ⟨A, c, hv1⟩ := own_shape hown.1
  subst hv1
  clear hS
  have HPL := Lib.hid hpl
  have HPQ := Lib.hid hpq
  have hpl9 : ps.length ≤ 1000 := by omega
  clear hpq hpl
  cases hx : q.findIdx? (fun a => decide (a.name = Idn.lower (L n))) with
  | none =>
    have HF : Hid (res = []) := by show _ = _; rw [hres.out, hx]
    rw [idxP_none hx] at hF
    clear hx
    go_wp2_with fail
    refine hF.mono ?_
    rintro e w2 ⟨rfl, hb2⟩
    go_wp2
    go_ret
    exact ⟨none, 0, by rw [HF.out]; rfl, by rw [HF.out]; exact World.ownsRow_nil _ _ _ _, hb1.trans (hb2.mono hb1.size)⟩
  | some k =>
    have hkl : k < q.length := (List.findIdx?_eq_some_iff_getElem.1 hx).1
    have HF : Hid (res = q[k].vals) := by show _ = _; rw [hres.out, hx]; simp [hkl]
    rw [idxP_some hx] at hF
    have hkp : k < ps.length := by rw [HPL.out]; exact hkl
    have hkI : (k : Int) < (ps.length : Int) := by omega
    have hk0 : ¬ ((k : Int) < 0) := by omega
    clear hx
    obtain ⟨g, cap, hu, _, hgl⟩ := hown.1.form (by omega)
    injection hu with hu1 hu2 hu3
    subst hu1 hu3
    have hpk : ps[k]? = some ps[k] := List.getElem?_eq_getElem (by omega)
    have hp1 : ps[k].1 = q[k] := by
      have := HPQ.out
      subst this
      simp
    have HP1 := Lib.hid hp1
    have hpm : ps[k] ∈ ps := List.getElem_mem _
    clear hp1
    generalize ps[k] = p at *
    have HPK := Lib.hid hpk
    clear hpk
    obtain ⟨Av, cv, hup⟩ := own_shape (hown.2.1 p hpm)
    go_wp2_with fail
    refine hF.mono ?_
    rintro e w2 ⟨rfl, hb2⟩
    have hown2 := hown.keep hb2
    obtain ⟨c0, c1, _, _⟩ := hown2.cell HPK.out
    have ho := hown2.2.1 p hpm
    rw [hup] at c1 ho
    obtain ⟨Aw, cw, ew, hcw, hrd⟩ := StrsV.of_own ho
    injection ew with ew1 ew2 ew3
    subst ew1
    have hvc : (p.1.vals.length : Int) ≤ (cv : Int) := by omega
    have hv0 : (0 : Int) ≤ (p.1.vals.length : Int) := by omega
    have HO := Lib.hid ho
    clear hF hown hown2 ho hup hpm
    go_wp2
    go_ret
    exact ⟨Av, cv, by rw [HF.out, ← HP1.out]; rfl, by rw [HF.out, ← HP1.out]; exact own_base HO.out (Nat.le_refl _), hb1.trans (hb2.mono hb1.size)⟩
end Go.Proofs.YtgjllfonmgfhgaaGreatDoor
/- entry: missing. -/
namespace Go.Proofs.YtgjllfonmgfhgaaGreatDoor
open Go.RowKit Go.Sort
open Idn (L B Bs drop_L take_L size_L)
end Go.Proofs.YtgjllfonmgfhgaaGreatDoor
/- Plain laws of filters: parts between a beginning and an end, from the left or with the end cut first. -/
namespace Go.Proofs.YtgjllfonmgfhgaaGreatDoor
open Go.RowKit Go.Sort
open Idn (L B Bs)
end Go.Proofs.YtgjllfonmgfhgaaGreatDoor
