/- Part 31 of the proof that identitylaw11.IndexCandidates returns true for every data that it may be called with: proof: the package variables hold what the program lays; nothing else is asked. -/
import Derived.Test.YtbkkchhimhlhcaaGreatDoorIcd30
set_option linter.unusedVariables false
set_option linter.unusedSimpArgs false
set_option maxRecDepth 100000
set_option maxHeartbeats 16000000
/- Plain law of SchemaInherits. -/
namespace Go.Proofs.YtbkkchhimhlhcaaGreatDoor
open Go.RowKit Go.Sort
open Idn (L B Bs)
theorem vals_clean : ∀ (l p : List Bs), Idn.valsErr p l = 0 → ∀ x ∈ l, Idn.clean x = true
 | [], _, _, x, hx => by simp at hx
 | v :: l, p, h, x, hx => by
  unfold Idn.valsErr at h
  split at h
  ·cases h
  ·rename_i h1
   split at h
   ·cases h
   ·rcases List.mem_cons.1 hx with rfl | hx
    ·simpa using h1
    ·exact vals_clean l _ h x hx
theorem atts_clean : ∀ (l p : List Idn.Att), Idn.attsErr p l = 0 → ∀ a ∈ l, ∀ x ∈ a.vals, Idn.clean x = true
 | [], _, _, a, ha => by simp at ha
 | b :: l, p, h, a, ha => by
  unfold Idn.attsErr at h
  split at h
  ·rename_i hn; simp [h] at hn
  ·rename_i hn
   have h0 : Idn.attErr p b = 0 := by simpa using hn
   rcases List.mem_cons.1 ha with rfl | ha
   ·unfold Idn.attErr at h0
    split at h0
    ·cases h0
    ·split at h0
     ·cases h0
     ·split at h0
      ·cases h0
      ·split at h0
       ·cases h0
       ·exact vals_clean _ _ h0
   ·exact atts_clean l _ h a ha
theorem aCheck_clean {l : List Idn.Att} (h : Idn.aCheck l = 0) : ∀ a ∈ l, ∀ x ∈ a.vals, Idn.clean x = true := by
 unfold Idn.aCheck at h
 split at h
 ·cases h
 ·exact atts_clean l [] h
def upc (c : UInt8) : UInt8 := if decide (97 ≤ c.toNat) && decide (c.toNat ≤ 122) then c - 32 else c
def upper (l : Bs) : Bs := l.map upc
def raise (l : List Idn.Att) : List Idn.Att := l.map fun a => ⟨upper a.name, a.vals⟩
end Go.Proofs.YtbkkchhimhlhcaaGreatDoor
/- Plain functions: what the layer entry and the rest of the layer attrs compute. -/
namespace Go.Proofs.YtbkkchhimhlhcaaGreatDoor
open Go.RowKit Go.Sort
open Idn (L B Bs)
def eCheck (n : Bs) (l : List Idn.Att) : Int := if n.isEmpty || !validN n then 5 else Idn.aCheck l
def eValsK (s : Idn.Sch) (a : Bs) : List Bs → List Bs → List Bs × Int
 | acc, [] => (acc, 0)
 | acc, v :: l => if (sNorm s a v).2 != 0 then ([], (sNorm s a v).2) else eValsK s a (acc ++ [(sNorm s a v).1]) l
def eVals (s : Idn.Sch) (a : Bs) (l : List Bs) : List Bs × Int := eValsK s a [] l
def dupK : List Bs → List Bs → Bool
 | _, [] => false
 | p, v :: l => p.contains v || dupK (p ++ [v]) l
def eAtt (s : Idn.Sch) (a : Bs) (l : List Bs) : List Bs × Int := if (eVals s a l).2 != 0 then ([], (eVals s a l).2) else if dupK [] (eVals s a l).1 then ([], 7) else ((eVals s a l).1, 0)
def eAttsK (s : Idn.Sch) : List Idn.Att → List Idn.Att → List Idn.Att × Int
 | acc, [] => (acc, 0)
 | acc, a :: l => if (eAtt s a.name a.vals).2 != 0 then ([], (eAtt s a.name a.vals).2) else eAttsK s (acc ++ [⟨a.name, (eAtt s a.name a.vals).1⟩]) l
def leLow (a b : Idn.Att) : Bool := decide (Idn.lower a.name ≤ Idn.lower b.name)
def byLow (l : List Idn.Att) : List Idn.Att := l.mergeSort leLow
abbrev En := Bs × List Idn.Att
def eOut (s : Idn.Sch) (n : Bs) (l : List Idn.Att) : En × Int := if sValid s l != 0 then (([], []), sValid s l) else ((n, l), 0)
def eNormal (s : Idn.Sch) (n : Bs) (l : List Idn.Att) : En × Int :=
 if (Idn.cleanN n).2 != 0 || (Idn.cleanN n).1.isEmpty then (([], []), 5)
 else if Idn.aCheck l != 0 then (([], []), Idn.aCheck l)
 else if (eAttsK s [] (byLow l)).2 != 0 then (([], []), (eAttsK s [] (byLow l)).2)
 else eOut s (Idn.cleanN n).1 (Idn.aSorted (eAttsK s [] (byLow l)).1)
def aSet (l : List Idn.Att) (n : Bs) (v : List Bs) : List Idn.Att := Idn.rSorted (l.filter (fun a => !decide (a.name = Idn.lower n)) ++ [⟨Idn.lower n, v⟩])
structure Md where
 op : Int
 name : Bs
 vals : List Bs
def minus (a b : List Bs) : List Bs := a.filter fun x => !b.contains x
end Go.Proofs.YtbkkchhimhlhcaaGreatDoor
/- Plain laws: the general normal form of attributes; attributes in the order of their names. -/
namespace Idn
open Go
theorem mem_lows {l : List Att} {m : Bs} : m ∈ lows l ↔ valsOf l m ≠ [] := by
 unfold lows valsOf
 rw [Ne, List.flatMap_eq_nil_iff, List.mem_map]
 constructor
 ·rintro ⟨a, ha, rfl⟩ h
  rw [List.mem_filter] at ha
  have := h a (List.mem_filter.2 ⟨ha.1, by simp⟩)
  rw [this] at ha; simp at ha
 ·intro h
  refine Decidable.byContradiction fun hn => h fun a ha => ?_
  rw [List.mem_filter] at ha
  refine Decidable.byContradiction fun hv => hn ⟨a, List.mem_filter.2 ⟨ha.1, ?_⟩, by simpa using ha.2⟩
  simpa using List.length_pos_iff.2 hv
theorem sort_names {q : List Att} {ns : List Bs} {f : Bs → Att} (h1 : ∀ a ∈ q, a = f a.name) (h2 : (q.map (·.name)).Nodup) (h3 : ∀ m, m ∈ q.map (·.name) ↔ m ∈ ns) (h4 : ns.Pairwise (· < ·)) :
  q.mergeSort (fun a b => decide (a.name ≤ b.name)) = ns.map f := by
 have hp : (q.mergeSort fun a b => decide (a.name ≤ b.name)).Perm q := List.mergeSort_perm _ _
 have hs : (q.mergeSort fun a b => decide (a.name ≤ b.name)).Pairwise fun a b => decide (a.name ≤ b.name) = true := List.pairwise_mergeSort (fun a b c h1 h2 => by
   rw [decide_eq_true_eq] at *; exact List.le_trans h1 h2) (fun a b => by
   rw [Bool.or_eq_true, decide_eq_true_eq, decide_eq_true_eq]; exact List.le_total _ _) _
 generalize (q.mergeSort fun a b => decide (a.name ≤ b.name)) = r at *
 have e : r.map (·.name) = ns := by
  refine uniq _ _ ?_ h4 fun x => by rw [(hp.map (·.name)).mem_iff]; exact h3 x
  rw [← (hp.map (·.name)).nodup_iff] at h2
  rw [List.pairwise_map]
  rw [List.nodup_iff_pairwise_ne, List.pairwise_map] at h2
  refine List.Pairwise.imp₂ ?_ hs h2
  intro a b h1 h2
  rw [decide_eq_true_eq] at h1
  exact Decidable.byContradiction fun hn => h2 (List.le_antisymm h1 (List.not_lt.1 hn))
 rw [← e, List.map_map]
 have : ∀ a ∈ r, (f ∘ (·.name)) a = a := fun a ha => (h1 a (hp.mem_iff.1 ha)).symm
 rw [List.map_congr_left this, List.map_id']
theorem grp_vals {l : List Att} {b : Att} (hb : b ∈ grp [] l) : b.vals = valsOf l b.name := by
 have h1 := tot_self (grp [] l) (grp_nd l [] (by simp)) b hb
 rw [grp_tot _ l [] (by simp)] at h1
 exact h1.symm
def full (a : Att) : Bool := decide (a.vals.length ≠ 0)
theorem sortedG_law (l : List Att) : (((grp [] l).filter full).map normA).mergeSort (fun a b => decide (a.name ≤ b.name)) = rSorted l := by
 refine sort_names (f := rOne l) (fun a ha => ?_) ?_ (fun m => ?_) (insAll_lt _)
 ·obtain ⟨b, hb, rfl⟩ := List.mem_map.1 ha
  have hv := grp_vals (List.mem_filter.1 hb).1
  unfold normA rOne
  dsimp only
  rw [← hv]
  congr 1
  exact law b.vals
 ·rw [norm_names]
  exact (List.filter_sublist.map _).nodup (grp_nd l [] (by simp))
 ·rw [norm_names, insAll_mem, mem_lows]
  constructor
  ·intro h
   obtain ⟨b, hb, rfl⟩ := List.mem_map.1 h
   rw [List.mem_filter] at hb
   rw [← grp_vals hb.1]
   intro e
   have := hb.2
   unfold full at this
   rw [e] at this
   simp at this
  ·intro h
   have hm : m ∈ (grp [] l).map (·.name) := by
    rw [grp_names]
    have h2 := mem_lows.2 h
    unfold lows at h2
    obtain ⟨a, ha, rfl⟩ := List.mem_map.1 h2
    exact .inr (List.mem_map.2 ⟨a, (List.mem_filter.1 ha).1, rfl⟩)
   obtain ⟨b, hb, rfl⟩ := List.mem_map.1 hm
   refine List.mem_map.2 ⟨b, List.mem_filter.2 ⟨hb, ?_⟩, rfl⟩
   unfold full
   rw [grp_vals hb, decide_eq_true_eq]
   intro e
   exact h (List.eq_nil_of_length_eq_zero e)
theorem attErr_zero {p : List Att} {a : Att} (h : attErr p a = 0) : name a.name = true ∧ ixA p a.name = none ∧ a.vals.length ≠ 0 ∧ a.vals.length ≤ 16 ∧ valsErr [] a.vals = 0 := by
 unfold attErr at h
 split at h
 ·cases h
 ·rename_i h1
  split at h
  ·cases h
  ·rename_i h2
   split at h
   ·cases h
   ·rename_i h3
    split at h
    ·cases h
    ·rename_i h4
     exact ⟨by simpa using h1, by simpa using h2, h3, by omega, h⟩
theorem atts_nd : ∀ (l p : List Att), attsErr p l = 0 → (∀ a ∈ l, ∀ b ∈ p, lower b.name ≠ lower a.name) ∧ (l.map fun a => lower a.name).Nodup ∧ ∀ a ∈ l, name a.name = true ∧ valsErr [] a.vals = 0
 | [], _, _ => by simp
 | c :: l, p, h => by
  rw [attsErr] at h
  by_cases hb : attErr p c = 0
  ·rw [if_neg (by simpa using hb)] at h
   obtain ⟨z1, z2, z3, z4, z5⟩ := attErr_zero hb
   obtain ⟨i1, i2, i3⟩ := atts_nd l (p ++ [c]) h
   have hc : ∀ b ∈ p, lower b.name ≠ lower c.name := fun b hbm => by
    have := List.findIdx?_eq_none_iff.1 z2 b hbm
    simpa using this
   refine ⟨fun a ha b hbm => ?_, ?_, fun a ha => ?_⟩
   ·rcases List.mem_cons.1 ha with rfl | ha
    ·exact hc b hbm
    ·exact i1 a ha b (List.mem_append_left _ hbm)
   ·rw [List.map_cons, List.nodup_cons]
    refine ⟨fun hm => ?_, i2⟩
    obtain ⟨a, ha, e⟩ := List.mem_map.1 hm
    exact i1 a ha c (List.mem_append_right _ (by simp)) e.symm
   ·rcases List.mem_cons.1 ha with rfl | ha
    ·exact ⟨z1, z5⟩
    ·exact i3 a ha
  ·rw [if_pos (by simpa using hb)] at h
   exact absurd h hb
theorem aCheck_all {l : List Att} (h : aCheck l = 0) : l.length ≤ 32 ∧ (l.map fun a => lower a.name).Nodup ∧ ∀ a ∈ l, name a.name = true ∧ valsErr [] a.vals = 0 := by
 unfold aCheck at h
 split at h
 ·cases h
 ·obtain ⟨_, h2, h3⟩ := atts_nd l [] h
  exact ⟨by omega, h2, h3⟩
end Idn
namespace Go.Proofs.YtbkkchhimhlhcaaGreatDoor
open Go.RowKit Go.Sort
open Idn (L B Bs)
theorem tyLook_low (s : Idn.Sch) (n : Bs) : tyLook s (Idn.lower n) = tyLook s n := by unfold tyLook Idn.ixT; rw [Idn.lower_lower]
theorem sNorm_low (s : Idn.Sch) (n v : Bs) : sNorm s (Idn.lower n) v = sNorm s n v := by unfold sNorm kNorm; rw [tyLook_low]
end Go.Proofs.YtbkkchhimhlhcaaGreatDoor
/- Plain laws: the changes of attributes by the reference are the layer's; differences. -/
namespace Idn
open Go
theorem find_name (f : Bs → Att) (hf : ∀ n, (f n).name = n) (n : Bs) : ∀ ns : List Bs, (match (ns.map f).findIdx? (fun a => decide (a.name = n)) with
    | none => []
    | some k => match (ns.map f)[k]? with | none => [] | some a => a.vals) = if n ∈ ns then (f n).vals else []
 | [] => by simp
 | m :: ns => by
  have ih := find_name f hf n ns
  rw [List.map_cons, List.findIdx?_cons, hf m]
  by_cases h : m = n
  ·subst h; simp
  ·have hn : n ≠ m := fun e => h e.symm
   simp only [h, decide_false, Bool.false_eq_true, if_false, List.mem_cons, hn, false_or]
   rw [← ih]
   cases (ns.map f).findIdx? (fun a => decide (a.name = n)) with
   | none => rfl
   | some k => simp
theorem insAll_length {v : List Bs} (h : v.Nodup) : (insAll v).length = v.length := by
 have h1 : (insAll v).Nodup := (insAll_lt v).imp fun h e => by subst e; exact List.lt_irrefl _ h
 exact ((List.perm_ext_iff_of_nodup h1 h).2 fun x => insAll_mem v x).length_eq
theorem insAll_nodup (v : List Bs) : (insAll v).Nodup := (insAll_lt v).imp fun h e => by subst e; exact List.lt_irrefl _ h
theorem valsOf_app (x y : List Att) (n : Bs) : valsOf (x ++ y) n = valsOf x n ++ valsOf y n := by unfold valsOf; rw [List.filter_append, List.flatMap_append]
theorem rSorted_name {l : List Att} {a : Att} (h : a ∈ rSorted l) : lower a.name = a.name := by
 unfold rSorted at h
 obtain ⟨m, hm, rfl⟩ := List.mem_map.1 h
 rw [insAll_mem] at hm
 unfold lows at hm
 obtain ⟨b, _, rfl⟩ := List.mem_map.1 hm
 exact lower_lower _
end Idn
namespace Go.Proofs.YtbkkchhimhlhcaaGreatDoor
open Go.RowKit Go.Sort
open Idn (L B Bs)
theorem rGet_law (l : List Idn.Att) (n : Bs) : rGet l n = Idn.insAll (Idn.valsOf l (Idn.lower n)) := by
 unfold rGet Idn.rSorted
 refine Eq.trans (Idn.find_name (Idn.rOne l) (fun _ => rfl) (Idn.lower n) (Idn.insAll (Idn.lows l))) ?_
 split
 ·rfl
 ·rename_i h
  rw [Idn.insAll_mem, Idn.mem_lows] at h
  rw [Decidable.not_not.1 h]; rfl
theorem valsOf_sorted (m : List Idn.Att) (n : Bs) : Idn.valsOf (Idn.rSorted m) (Idn.lower n) = Idn.insAll (Idn.valsOf m (Idn.lower n)) := by
 unfold Idn.rSorted
 have hlow : ∀ x ∈ Idn.insAll (Idn.lows m), Idn.lower x = x := fun x hx => by
  rw [Idn.insAll_mem] at hx
  unfold Idn.lows at hx
  obtain ⟨b, _, rfl⟩ := List.mem_map.1 hx
  exact Idn.lower_lower _
 have hnd := Idn.insAll_nodup (Idn.lows m)
 have hmem : Idn.lower n ∈ Idn.insAll (Idn.lows m) ↔ Idn.valsOf m (Idn.lower n) ≠ [] := by rw [Idn.insAll_mem, Idn.mem_lows]
 generalize Idn.insAll (Idn.lows m) = ns at *
 have key : ∀ ns : List Bs, (∀ x ∈ ns, Idn.lower x = x) → ns.Nodup → Idn.valsOf (ns.map (Idn.rOne m)) (Idn.lower n) = if Idn.lower n ∈ ns then Idn.insAll (Idn.valsOf m (Idn.lower n)) else [] := by
  intro ns
  induction ns with
  | nil => intro _ _; rfl
  | cons x ns ih =>
   intro h1 h2
   rw [List.nodup_cons] at h2
   have ih := ih (fun y hy => h1 y (List.mem_cons_of_mem _ hy)) h2.2
   have hx := h1 x List.mem_cons_self
   unfold Idn.valsOf at ih ⊢
   rw [List.map_cons]
   by_cases he : x = Idn.lower n
   ·have hn : Idn.lower n ∉ ns := he ▸ h2.1
    rw [if_neg hn] at ih
    rw [List.filter_cons_of_pos (by show decide (Idn.lower x = Idn.lower n) = true; rw [hx, he]; simp), List.flatMap_cons, ih, List.append_nil, if_pos (by rw [he]; exact List.mem_cons_self)]
    show Idn.insAll (Idn.valsOf m x) = _
    rw [he]; rfl
   ·rw [List.filter_cons_of_neg (by show ¬ decide (Idn.lower x = Idn.lower n) = true; rw [hx]; simpa using he), ih]
    have : Idn.lower n ∈ x :: ns ↔ Idn.lower n ∈ ns := by
     rw [List.mem_cons]
     exact ⟨fun h => h.resolve_left fun e => he e.symm, .inr⟩
    simp only [this]
 rw [key ns hlow hnd]
 split
 ·rfl
 ·rename_i h
  rw [hmem, Decidable.not_not] at h
  rw [h]; rfl
theorem insAll_idem (v : List Bs) : Idn.insAll (Idn.insAll v) = Idn.insAll v := Idn.uniq _ _ (Idn.insAll_lt _) (Idn.insAll_lt _) fun x => by rw [Idn.insAll_mem]
theorem vErr_nd (old : List Bs) : ∀ (l p : List Bs), vErr old p l = 0 → p.Nodup → (∀ x ∈ p, x ∉ old) → (p ++ l).Nodup ∧ ∀ x ∈ p ++ l, x ∉ old
 | [], p, _, h1, h2 => by rw [List.append_nil]; exact ⟨h1, h2⟩
 | v :: l, p, h, h1, h2 => by
  rw [vErr] at h
  split at h
  ·cases h
  ·split at h
   ·cases h
   ·rename_i h3
    split at h
    ·cases h
    ·rename_i h4
     rw [List.contains_iff_mem] at h3 h4
     have := vErr_nd old l (p ++ [v]) h (by rw [List.nodup_append]; exact ⟨h1, by simp, fun a ha b hb e => by simp at hb; subst hb; subst e; exact h4 ha⟩) (fun x hx => by
      rcases List.mem_append.1 hx with hx | hx
      ·exact h2 x hx
      ·simp at hx; subst hx; exact h3)
     rw [List.append_assoc] at this
     exact this
end Go.Proofs.YtbkkchhimhlhcaaGreatDoor
/- Modifications and entries in memory. -/
namespace Go.Proofs.YtbkkchhimhlhcaaGreatDoor
open Go.RowKit Go.Sort
open Idn (L B Bs)
def EMd (w : World) (hi : Nat) (x : Md) (cs : List Value) : Prop := ∃ v, cs = [.int .i64 x.op, sv x.name, v] ∧ StrsV w hi v x.vals
abbrev ModsV (w : World) (hi : Nat) (v : Value) (l : List Md) : Prop := SlV (EMd w hi) w hi 3 v l
theorem EMd.keep {w w' : World} {hi : Nat} {x : Md} {cs : List Value} (h : EMd w hi x cs) (hb : Below hi w w') : EMd w' hi x cs := by
 obtain ⟨v, h1, h2⟩ := h
 exact ⟨v, h1, SlV.keep h2 hb⟩
theorem EMd.mono {w : World} {hi hi' : Nat} {x : Md} {cs : List Value} (h : EMd w hi x cs) (hh : hi ≤ hi') : EMd w hi' x cs := by
 obtain ⟨v, h1, h2⟩ := h
 exact ⟨v, h1, SlV.mono h2 hh⟩
theorem ModsV.keep {w w' : World} {hi : Nat} {v : Value} {l : List Md} (h : ModsV w hi v l) (hb : Below hi w w') : ModsV w' hi v l := SlV.keepE h hb fun _ _ _ he => he.keep hb
theorem ModsV.mono {w : World} {hi hi' : Nat} {v : Value} {l : List Md} (h : ModsV w hi v l) (hh : hi ≤ hi') : ModsV w hi' v l :=
 SlV.mono (SlV.keepE h (Below.refl _ _) fun _ _ _ he => he.mono hh) hh
theorem ModsV.cell {w : World} {hi : Nat} {A : Option Addr} {n c : Nat} {l : List Md} (h : ModsV w hi (.slice A n c) l) {k : Nat} (hk : k < l.length) :
  ∃ b off v, A = some ⟨b, off, none⟩ ∧ b < hi ∧ w.cell? ⟨b, off + k * 3, none⟩ = some (.int .i64 l[k].op) ∧ w.cell? ⟨b, off + k * 3 + 1, none⟩ = some (.string (B l[k].name)) ∧ w.cell? ⟨b, off + k * 3 + 2, none⟩ = some v ∧ StrsV w hi v l[k].vals := by
 obtain ⟨b, off, hA, hb, cs, h1, ⟨v, h2, h4⟩, h3⟩ := h.at_ hk
 subst h2
 exact ⟨b, off, v, hA, hb, by simpa using h3 0 _ rfl, by simpa [sv, Nat.add_assoc] using h3 1 _ rfl, by simpa [Nat.add_assoc] using h3 2 _ rfl, h4⟩
def EntW (w : World) (hi : Nat) (v : Value) (n : Bs) (l : List Idn.Att) : Prop := ∃ a, v = .agg #[.string (B n), a] ∧ AttsV w hi a l
theorem EntW.keep {w w' : World} {hi : Nat} {v : Value} {n : Bs} {l : List Idn.Att} (h : EntW w hi v n l) (hb : Below hi w w') : EntW w' hi v n l := by
 obtain ⟨a, e, h1⟩ := h
 exact ⟨a, e, AttsV.keep h1 hb⟩
theorem EntW.mono {w : World} {hi hi' : Nat} {v : Value} {n : Bs} {l : List Idn.Att} (h : EntW w hi v n l) (hh : hi ≤ hi') : EntW w hi' v n l := by
 obtain ⟨a, e, h1⟩ := h
 exact ⟨a, e, AttsV.mono h1 hh⟩
end Go.Proofs.YtbkkchhimhlhcaaGreatDoor
/- name.Valid, entry.Check. -/
namespace Go.Proofs.YtbkkchhimhlhcaaGreatDoor
open Go.RowKit Go.Sort
open Idn (L B Bs drop_L take_L size_L)
theorem nm_valid_any (s : ByteArray) (w : World) (hs : s.size ≤ 1000000000) :
  Calls Tryz.prog 58 #[.string s] w fun e w' => e = .returned (.bool (validN (L s))) ∧ Below w.heap.size w w' := by
 have hN := nm_normal_any s w hs
 have hv := normal_valid (L s)
 generalize Idn.normal (L s) = r at *
 generalize validN (L s) = b at *
 obtain ⟨l, d⟩ := r
 subst hv
 go_enter Tryz.func58, Tryz.ntmps58
 go_wp2_with fail
 refine hN.mono ?_
 rintro e w1 ⟨v, rfl, hown, hb⟩
 clear hN
 go_wp2
 go_ret
 exact ⟨rfl, hb⟩
end Go.Proofs.YtbkkchhimhlhcaaGreatDoor
/- entry: normal, twice. -/
namespace Go.Proofs.YtbkkchhimhlhcaaGreatDoor
open Go.RowKit Go.Sort
open Idn (L B Bs drop_L take_L size_L)
end Go.Proofs.YtbkkchhimhlhcaaGreatDoor
/- entry: the order of Normal: slices.SortFunc at attributes, by their names in lower case. -/
namespace Go.Proofs.YtbkkchhimhlhcaaGreatDoor
open Go.RowKit Go.Sort
open Idn (L B Bs drop_L take_L size_L)
def RowV (w : World) (base : Nat) (v : Value) (ps : List (Idn.Att × Value)) : Prop :=
 w.ownsRow base 96 2 v ps.length (rowA ps) ∧ ∀ p ∈ ps, ∃ A c, p.2 = .slice A p.1.vals.length c
end Go.Proofs.YtbkkchhimhlhcaaGreatDoor
/- Plain functions: what the layer filter computes. -/
namespace Go.Proofs.YtbkkchhimhlhcaaGreatDoor
open Go.RowKit Go.Sort
open Idn (L B Bs)
inductive Flt where
 | mk (kind : Int) (name value : Bs) (parts : List Bs) (kids : List Flt)
namespace Flt
def kind : Flt → Int | .mk k _ _ _ _ => k
def name : Flt → Bs | .mk _ n _ _ _ => n
def value : Flt → Bs | .mk _ _ v _ _ => v
def parts : Flt → List Bs | .mk _ _ _ p _ => p
def kids : Flt → List Flt | .mk _ _ _ _ l => l
end Flt
mutual
def fSize : Flt → Nat
 | .mk _ _ _ _ ks => fSizes ks + 1
def fSizes : List Flt → Nat
 | [] => 0
 | f :: l => fSize f + fSizes l
end
mutual
def fDep : Flt → Nat
 | .mk _ _ _ _ ks => fDeps ks + 1
def fDeps : List Flt → Nat
 | [] => 0
 | f :: l => max (fDep f) (fDeps l)
end
def isCmp (k : Int) : Bool := decide (4 ≤ k) && decide (k ≤ 8)
def prtF (s : Bs) : Bool := s.all Idn.printable && decide (s.length ≤ 256)
def partsF (l : List Bs) : Bool := decide (2 ≤ l.length) && (decide (l.length ≤ 16) && (!((l.drop 1).dropLast.contains []) && l.any fun s => !s.isEmpty))
def formF (k : Int) (n v : Bs) (ps : List Bs) (m : Nat) : Bool :=
 if k = 1 ∨ k = 2 then n.isEmpty && (v.isEmpty && ps.isEmpty)
 else if k = 3 then n.isEmpty && (v.isEmpty && (ps.isEmpty && decide (m = 1)))
 else if k = 4 ∨ k = 5 ∨ k = 6 then ps.isEmpty && decide (m = 0)
 else if k = 7 then v.isEmpty && (ps.isEmpty && decide (m = 0))
 else if k = 8 then v.isEmpty && (decide (m = 0) && partsF ps)
 else false
def ownErr (k : Int) (n v : Bs) (ps : List Bs) (m : Nat) : Int :=
 if !formF k n v ps m then 4 else if isCmp k then (if !Idn.name n then 5 else if (decide (k ≤ 6) && !Idn.clean v) || ps.any fun s => !prtF s then 8 else 0) else 0
mutual
def nodeErr : Flt → Int
 | .mk k n v ps ks => if ownErr k n v ps ks.length != 0 then ownErr k n v ps ks.length else nodeErrs ks
def nodeErrs : List Flt → Int
 | [] => 0
 | f :: l => if nodeErr f != 0 then nodeErr f else nodeErrs l
end
def fCheck (f : Flt) : Int := if 64 < fSize f ∨ 8 < fDep f then 3 else nodeErr f
mutual
def fNamed : Flt → List Bs
 | .mk k n _ _ ks => (if isCmp k then [Idn.lower n] else []) ++ fNameds ks
def fNameds : List Flt → List Bs
 | [] => []
 | f :: l => fNamed f ++ fNameds l
end
def fNames (f : Flt) : List Bs := if fCheck f != 0 then [] else Idn.insAll (fNamed f)
def notF (f : Flt) : Flt := .mk 3 [] [] [] [f]
end Go.Proofs.YtbkkchhimhlhcaaGreatDoor
/- Plain functions: what the layer index computes. -/
namespace Go.Proofs.YtbkkchhimhlhcaaGreatDoor
open Go.RowKit Go.Sort
open Idn (L B Bs)
abbrev IxE := Bs × List Idn.Att
def nV (s : Idn.Sch) (a : Bs) (A : List Idn.Att) : List Bs := (rGet A a).filterMap fun v => if (sNorm s a v).2 = 0 then some (sNorm s a v).1 else none
def ixNew (s : Idn.Sch) : List Bs → List Bs → Int × List Bs
 | [], acc => (0, acc)
 | n :: l, acc => if !(tyLook (sound s) n).2 then (6, []) else if acc.contains (Idn.lower n) then (7, []) else ixNew s l (acc ++ [Idn.lower n])
def insE (n : Bs) (A : List Idn.Att) : List IxE → List IxE
 | [] => [(n, A)]
 | x :: l => if cmpNm x.1 n < 0 then x :: insE n A l else if x.1 = n then (n, A) :: l else (n, A) :: x :: l
def hasE (es : List IxE) (n : Bs) : Bool := es.any fun e => e.1 == n
def ixPut (es : List IxE) (n : Bs) (A : List Idn.Att) : Int × List IxE :=
 if n.isEmpty || !validN n then (5, es) else if Idn.aCheck A != 0 then (Idn.aCheck A, es) else if !hasE es n && decide (256 ≤ es.length) then (3, es) else (0, insE n (Idn.rSorted A) es)
def ixDrop (es : List IxE) (n : Bs) : List IxE := es.filter fun e => e.1 != n
def inB (s : Idn.Sch) (a v b : Bs) (side : Int) : Bool := b.isEmpty || (decide ((sComp s a v b).2 = 0) && decide (0 ≤ (sComp s a v b).1 * side))
def ixRange (s : Idn.Sch) (idx : List Bs) (es : List IxE) (a low hi : Bs) : List Bs × Bool :=
 if !idx.contains (Idn.lower a) then ([], false) else ((es.filter fun e => (nV s a e.2).any fun v => inB s a v low 1 && inB s a v hi (-1)).map (·.1), true)
def ixFind (s : Idn.Sch) (idx : List Bs) (es : List IxE) (a x : Bs) : List Bs × Bool :=
 if !idx.contains (Idn.lower a) then ([], false) else if (sNorm s a x).2 != 0 then ([], true) else ((es.filter fun e => (nV s a e.2).contains (sNorm s a x).1).map (·.1), true)
def ixPres (idx : List Bs) (es : List IxE) (a : Bs) : List Bs × Bool :=
 if !idx.contains (Idn.lower a) then ([], false) else ((es.filter fun e => decide (0 < (rGet e.2 a).length)).map (·.1), true)
def ixBound (s : Idn.Sch) (idx : List Bs) (es : List IxE) (k : Int) (a x : Bs) : List Bs × Bool :=
 if !idx.contains (Idn.lower a) then ([], false) else if x.isEmpty then ([], true) else if k = 5 then ixRange s idx es a x [] else ixRange s idx es a [] x
def bestC : List (List Bs × Bool) → List Bs × Bool → List Bs × Bool
 | [], b => b
 | c :: l, b => bestC l (if c.2 && (!b.2 || decide (c.1.length < b.1.length)) then (c.1, true) else b)
def someC (es : List IxE) (l : List (List Bs × Bool)) : List Bs × Bool := if l.all (·.2) then ((es.map (·.1)).filter fun n => l.any fun c => c.1.contains n, true) else ([], false)
mutual
def ixCand (s : Idn.Sch) (idx : List Bs) (es : List IxE) : Flt → List Bs × Bool
 | .mk k n v _ ks => if k = 4 then ixFind s idx es n v else if k = 5 ∨ k = 6 then ixBound s idx es k n v else if k = 7 then ixPres idx es n
  else if k = 1 then bestC (ixCands s idx es ks) ([], false) else if k = 2 then someC es (ixCands s idx es ks) else ([], false)
def ixCands (s : Idn.Sch) (idx : List Bs) (es : List IxE) : List Flt → List (List Bs × Bool)
 | [] => []
 | f :: l => ixCand s idx es f :: ixCands s idx es l
end
end Go.Proofs.YtbkkchhimhlhcaaGreatDoor
/- Plain laws of the layer index: ranges by normal forms and by values; entries in their order. -/
namespace Go.Proofs.YtbkkchhimhlhcaaGreatDoor
open Go.RowKit Go.Sort
open Idn (L B Bs)
theorem any_fm {α β : Type} (f : α → Option β) (p : β → Bool) : ∀ l : List α, (l.filterMap f).any p = l.any fun x => match f x with
    | none => false
    | some y => p y
 | [] => rfl
 | x :: l => by
  rw [List.filterMap_cons, List.any_cons]
  cases f x with
  | none => rw [any_fm f p l]; rfl
  | some y => rw [List.any_cons, any_fm f p l]
theorem any_ext {α : Type} {p q : α → Bool} : ∀ {l : List α}, (∀ x ∈ l, p x = q x) → l.any p = l.any q
 | [], _ => rfl
 | x :: l, h => by rw [List.any_cons, List.any_cons, h x List.mem_cons_self, any_ext fun y hy => h y (List.mem_cons_of_mem _ hy)]
theorem norm_pair {s : Idn.Sch} {a v : Bs} (h : (sNorm s a v).2 = 0) : sNorm s a v = ((sNorm s a v).1, 0) := by rw [← h]
theorem comp_norm {s : Idn.Sch} {a v v' b b' : Bs} (hv : sNorm s a v = (v', 0)) (hb : sNorm s a b = (b', 0)) : sComp s a v' b = sComp s a v b := by
 have h := (orders_law hv hb hb).1
 rw [sComp_of h hb, sComp_of hv hb]
theorem inB_low {s : Idn.Sch} {a v v' b b' : Bs} (hv : sNorm s a v = (v', 0)) (hb : sNorm s a b = (b', 0)) (hne : b.isEmpty = false) : inB s a v' b 1 = decide ((sComp s a b v).1 ≤ 0) := by
 obtain ⟨_, p, q, _, _, hp, hq, _, _, _, hqp, _⟩ := orders_law hb hv hv
 unfold inB
 rw [comp_norm hv hb, hne, hq, hp]
 simp only [Bool.false_or, decide_true, Bool.true_and, Int.mul_one]
 rw [decide_eq_decide]; omega
theorem inB_high {s : Idn.Sch} {a v v' b b' : Bs} (hv : sNorm s a v = (v', 0)) (hb : sNorm s a b = (b', 0)) (hne : b.isEmpty = false) : inB s a v' b (-1) = decide ((sComp s a v b).1 ≤ 0) := by
 obtain ⟨_, p, q, _, _, hp, hq, _, _, _, hqp, _⟩ := orders_law hb hv hv
 unfold inB
 rw [comp_norm hv hb, hne, hq]
 simp only [Bool.false_or, decide_true, Bool.true_and]
 rw [decide_eq_decide]; omega
def refIn (s : Idn.Sch) (a low hi v : Bs) : Bool := decide ((sNorm s a v).2 = 0) && (decide ((if low.isEmpty then 0 else (sComp s a low v).1) ≤ 0) && decide ((if hi.isEmpty then 0 else (sComp s a v hi).1) ≤ 0))
theorem found_law {s : Idn.Sch} {a low hi : Bs} (hl : low.isEmpty = true ∨ (sNorm s a low).2 = 0) (hh : hi.isEmpty = true ∨ (sNorm s a hi).2 = 0) (A : List Idn.Att) :
    (rGet A a).any (refIn s a low hi) = (nV s a A).any fun v => inB s a v low 1 && inB s a v hi (-1) := by
 unfold nV
 rw [any_fm]
 refine any_ext fun v _ => ?_
 unfold refIn
 by_cases h0 : (sNorm s a v).2 = 0
 ·have hv := norm_pair h0
  rw [if_pos h0, decide_eq_true h0, Bool.true_and]
  show _ = (inB s a (sNorm s a v).1 low 1 && inB s a (sNorm s a v).1 hi (-1))
  congr 1
  ·cases he : low.isEmpty with
   | true => unfold inB; rw [he]; rfl
   | false =>
    have hb := norm_pair (hl.resolve_left (by rw [he]; exact Bool.false_ne_true))
    rw [inB_low hv hb he]; rfl
  ·cases he : hi.isEmpty with
   | true => unfold inB; rw [he]; rfl
   | false =>
    have hb := norm_pair (hh.resolve_left (by rw [he]; exact Bool.false_ne_true))
    rw [inB_high hv hb he]; rfl
 ·rw [if_neg h0, decide_eq_false h0]; rfl
theorem comp_err {s : Idn.Sch} {a v b : Bs} (h : (sNorm s a b).2 ≠ 0) : (sComp s a v b).2 ≠ 0 := by
 unfold sComp
 have h' : (kNorm (sound s) a b).2.2 ≠ 0 := h
 by_cases h1 : (kNorm (sound s) a v).2.2 = 0
 ·have e1 : ((kNorm (sound s) a v).2.2 != 0) = false := by simpa using h1
  have e2 : ((kNorm (sound s) a b).2.2 != 0) = true := by simpa using h'
  rw [e1, e2, if_neg (by decide), if_pos rfl]; exact h'
 ·have e1 : ((kNorm (sound s) a v).2.2 != 0) = true := by simpa using h1
  rw [e1, if_pos rfl]; exact h1
theorem inB_err {s : Idn.Sch} {a v b : Bs} {side : Int} (hne : b.isEmpty = false) (h : (sNorm s a b).2 ≠ 0) : inB s a v b side = false := by
 unfold inB
 rw [hne, decide_eq_false (comp_err h)]; rfl
theorem range_err {s : Idn.Sch} {a low hi : Bs} (h : (low.isEmpty = false ∧ (sNorm s a low).2 ≠ 0) ∨ (hi.isEmpty = false ∧ (sNorm s a hi).2 ≠ 0)) (A : List Idn.Att) :
  ((nV s a A).any fun v => inB s a v low 1 && inB s a v hi (-1)) = false := by
 rw [List.any_eq_false]
 intro v _
 rcases h with ⟨h1, h2⟩ | ⟨h1, h2⟩
 ·rw [inB_err h1 h2]; simp
 ·rw [inB_err h1 h2]; simp
def srtE (es : List IxE) : Prop := es.Pairwise fun x y => cmpNm x.1 y.1 < 0
end Go.Proofs.YtbkkchhimhlhcaaGreatDoor
/- Plain laws of the layer index: the order of names, lists in that order, unions of lists. -/
namespace Go.Proofs.YtbkkchhimhlhcaaGreatDoor
open Go.RowKit Go.Sort
open Idn (L B Bs)
theorem ordr_nm : Ordr cmpNm (fun u => validN u = true) := by
 have key : ∀ u, validN u = true → ∃ l, Idn.check l = 0 ∧ u = Idn.fmtJ l ∧ Idn.normal u = (l.map Idn.nrm, true) := fun u hu => by
  unfold validN at hu
  rw [Bool.and_eq_true, beq_iff_eq, beq_iff_eq] at hu
  obtain ⟨l, hc, e, _, _, hn⟩ := Idn.clean_form (v := u) (u := u) (Prod.ext hu.2 hu.1)
  exact ⟨l, hc, e, hn⟩
 refine Ordr.of_key tot_cmpL (fun a => (Idn.normal a).1.reverse) ?_ ?_
 ·intro a b ha hb
  obtain ⟨l, _, _, hn⟩ := key a ha
  obtain ⟨m, _, _, hm⟩ := key b hb
  unfold cmpNm
  rw [hn, hm]; rfl
 ·intro a b ha hb e
  obtain ⟨l, _, hu, hn⟩ := key a ha
  obtain ⟨m, _, hu2, hm⟩ := key b hb
  rw [hn, hm] at e
  have e2 : l.map Idn.nrm = m.map Idn.nrm := by simpa using e
  rw [hu, hu2, ← Idn.fmtJ_nrm l, ← Idn.fmtJ_nrm m, e2]
theorem nm_irr {a : Bs} (ha : validN a = true) : cmpNm a a = 0 := (ordr_nm.eq a a ha ha).2 rfl
theorem nm_lt {a b c : Bs} (ha : validN a = true) (hb : validN b = true) (hc : validN c = true) (h1 : cmpNm a b < 0) (h2 : cmpNm b c < 0) : cmpNm a c < 0 := by
 have h := ordr_nm.tr a b c ha hb hc (by omega) (by omega)
 rcases Int.lt_or_eq_of_le h with h | h
 ·exact h
 ·have e := (ordr_nm.eq a c ha hc).1 h
  subst e
  have := ordr_nm.neg a b ha hb
  omega
def srtN (l : List Bs) : Prop := l.Pairwise fun x y => cmpNm x y < 0
theorem srtN_uniq : ∀ {l m : List Bs}, srtN l → srtN m → (∀ x ∈ l, validN x = true) → (∀ x, x ∈ l ↔ x ∈ m) → l = m
 | [], [], _, _, _, _ => rfl
 | [], y :: m, _, _, _, h => absurd ((h y).2 List.mem_cons_self) (by simp)
 | x :: l, [], _, _, _, h => absurd ((h x).1 List.mem_cons_self) (by simp)
 | x :: l, y :: m, hl, hm, hv, h => by
  have hx := hv x List.mem_cons_self
  have hy := hv y ((h y).2 List.mem_cons_self)
  obtain ⟨l1, l2⟩ := List.pairwise_cons.1 hl
  obtain ⟨m1, m2⟩ := List.pairwise_cons.1 hm
  have e : x = y := by
   rcases List.mem_cons.1 ((h x).1 List.mem_cons_self) with e | e
   ·exact e
   ·rcases List.mem_cons.1 ((h y).2 List.mem_cons_self) with e' | e'
    ·exact e'.symm
    ·have a1 := m1 x e
     have a2 := l1 y e'
     have := ordr_nm.neg x y hx hy
     omega
  subst e
  rw [srtN_uniq l2 m2 (fun z hz => hv z (List.mem_cons_of_mem _ hz)) fun z => ?_]
  constructor
  ·intro hz
   rcases List.mem_cons.1 ((h z).1 (List.mem_cons_of_mem _ hz)) with e | e
   ·subst e
    have := l1 z hz
    rw [nm_irr hx] at this; omega
   ·exact e
  ·intro hz
   rcases List.mem_cons.1 ((h z).2 (List.mem_cons_of_mem _ hz)) with e | e
   ·subst e
    have := m1 z hz
    rw [nm_irr hx] at this; omega
   ·exact e
def refUni : List Bs → List Bs → List Bs
 | a, [] => a
 | [], y :: b => y :: refUni [] b
 | x :: a, y :: b => if cmpNm x y < 0 then x :: refUni a (y :: b) else if 0 < cmpNm x y then y :: refUni (x :: a) b else refUni a (y :: b)
termination_by a b => a.length + b.length
theorem refUni_mem {z : Bs} : ∀ (a b : List Bs), (∀ x ∈ a, validN x = true) → (∀ x ∈ b, validN x = true) → (z ∈ refUni a b ↔ z ∈ a ∨ z ∈ b)
 | a, [], _, _ => by cases a <;> simp [refUni]
 | [], y :: b, ha, hb => by
  rw [refUni, List.mem_cons, refUni_mem [] b ha fun x hx => hb x (List.mem_cons_of_mem _ hx)]
  simp
 | x :: a, y :: b, ha, hb => by
  have ha' := fun z hz => ha z (List.mem_cons_of_mem _ hz)
  have hb' := fun z hz => hb z (List.mem_cons_of_mem _ hz)
  rw [refUni]
  split
  ·rw [List.mem_cons, refUni_mem a (y :: b) ha' hb, List.mem_cons, List.mem_cons, or_assoc]
  ·split
   ·rw [List.mem_cons, refUni_mem (x :: a) b ha hb', List.mem_cons, List.mem_cons]
    constructor
    ·rintro (h | h | h)
     ·exact .inr (.inl h)
     ·exact .inl h
     ·exact .inr (.inr h)
    ·rintro (h | h | h)
     ·exact .inr (.inl h)
     ·exact .inl h
     ·exact .inr (.inr h)
   ·rw [refUni_mem a (y :: b) ha' hb, List.mem_cons, List.mem_cons]
    have e : x = y := (ordr_nm.eq x y (ha x List.mem_cons_self) (hb y List.mem_cons_self)).1 (by omega)
    constructor
    ·rintro (h | h)
     ·exact .inl (.inr h)
     ·exact .inr h
    ·rintro ((h | h) | h)
     ·exact .inr (.inl (h.trans e))
     ·exact .inl h
     ·exact .inr h
termination_by a b => a.length + b.length
theorem refUni_srt : ∀ (a b : List Bs), (∀ x ∈ a, validN x = true) → (∀ x ∈ b, validN x = true) → srtN a → srtN b → srtN (refUni a b)
 | a, [], _, _, h, _ => by cases a <;> simpa [refUni] using h
 | [], y :: b, ha, hb, h1, h2 => by
  obtain ⟨m1, m2⟩ := List.pairwise_cons.1 h2
  have hb' := fun z hz => hb z (List.mem_cons_of_mem _ hz)
  rw [refUni]
  refine List.pairwise_cons.2 ⟨fun z hz => ?_, refUni_srt [] b ha hb' h1 m2⟩
  rcases (refUni_mem [] b ha hb').1 hz with h | h
  ·simp at h
  ·exact m1 z h
 | x :: a, y :: b, ha, hb, h1, h2 => by
  have ha' := fun z hz => ha z (List.mem_cons_of_mem _ hz)
  have hb' := fun z hz => hb z (List.mem_cons_of_mem _ hz)
  obtain ⟨l1, l2⟩ := List.pairwise_cons.1 h1
  obtain ⟨m1, m2⟩ := List.pairwise_cons.1 h2
  have hx := ha x List.mem_cons_self
  have hy := hb y List.mem_cons_self
  rw [refUni]
  split
  ·rename_i hlt
   refine List.pairwise_cons.2 ⟨fun z hz => ?_, refUni_srt a (y :: b) ha' hb l2 h2⟩
   rcases (refUni_mem a (y :: b) ha' hb).1 hz with h | h
   ·exact l1 z h
   ·rcases List.mem_cons.1 h with rfl | h
    ·exact hlt
    ·exact nm_lt hx hy (hb' z h) hlt (m1 z h)
  ·split
   ·rename_i hgt
    have hyx : cmpNm y x < 0 := by have := ordr_nm.neg x y hx hy; omega
    refine List.pairwise_cons.2 ⟨fun z hz => ?_, refUni_srt (x :: a) b ha hb' h1 m2⟩
    rcases (refUni_mem (x :: a) b ha hb').1 hz with h | h
    ·rcases List.mem_cons.1 h with rfl | h
     ·exact hyx
     ·exact nm_lt hy hx (ha' z h) hyx (l1 z h)
    ·exact m1 z h
   ·exact refUni_srt a (y :: b) ha' hb l2 h2
termination_by a b => a.length + b.length
end Go.Proofs.YtbkkchhimhlhcaaGreatDoor
/- attrs: Sorted, at attributes that may have no values. -/
namespace Go.Proofs.YtbkkchhimhlhcaaGreatDoor
open Go.RowKit Go.Sort
open Idn (L B Bs drop_L take_L size_L)
theorem sorted2_pred (g : Nat) (w : World) : PredG g 134 #[] (fun x => ((x.2 : Nat) : Int) == 0) w := fun W x A c _ => sorted2_any x.1 A x.2 c W
theorem full_map (ps : List (Idn.Att × Value)) : (ps.filter fun q => !((((nmA q).2 : Nat) : Int) == 0)).map (·.1) = (ps.map (·.1)).filter Idn.full := by
 rw [List.filter_map]
 congr 1
 refine List.filter_congr fun q _ => ?_
 show (!((q.1.vals.length : Int) == 0)) = decide (q.1.vals.length ≠ 0)
 by_cases h : q.1.vals.length = 0
 ·rw [h]; rfl
 ·rw [decide_eq_true h]
  have : ((q.1.vals.length : Int) == 0) = false := by rw [beq_eq_false_iff_ne]; omega
  rw [this]; rfl
theorem sortedG_any (v : Value) (l : List Idn.Att) (w : World) (hv : AttsV w w.heap.size v l) (hs : Idn.ASm7 l) :
    Calls Tryz.prog 61 #[v] w fun e w' => ∃ v' ps, e = .returned v' ∧ AttOwn w' w.heap.size v' ps ∧ ps.map (·.1) = Idn.rSorted l ∧ Below w.heap.size w w' := by
 obtain ⟨A, c, rfl, hc⟩ := SlV.shape hv
 have hl1 := hs.1
 go_enter Tryz.func61, Tryz.ntmps61
 go_upto_block 0 with fail
 go_cut [3] (fun u wx => ∃ ps, AttOwn wx w.heap.size u ps ∧ Below w.heap.size w wx ∧ Hid (ps.map (·.1) = Idn.grp [] l) ∧ ps.length ≤ 1000 ∧ ∀ p ∈ ps, p.1.vals.length ≤ 1000000000)
 case first =>
  go_wp2_with fail
  go_loopw [3, 11] (fun u i wr => ∃ (k : Nat) (ps : List (Idn.Att × Value)), k ≤ l.length ∧ i = .int .i64 k ∧ AttOwn wr w.heap.size u ps ∧ Below w.heap.size w wr ∧ Hid (Idn.grp (ps.map (·.1)) (l.drop k) = Idn.grp [] l) ∧ ps.length ≤ k ∧ ∀ p ∈ ps, p.1.vals.length ≤ k * 1100000) (fun _ i _ => l.length - (intOf i).toNat)
  case atStart => exact ⟨0, [], Nat.zero_le _, rfl, AttOwn.nil _ _, Below.refl _ _, rfl, Nat.le_refl _, by simp⟩
  case round =>
   obtain ⟨k, ps, hk, rfl, hown, hb, hinv, hpl, hpv⟩ := hrel
   by_cases hlt : k < l.length
   ·obtain ⟨b, off, va, rfl, hbl, c0, c1, hva⟩ := AttsV.cell hv hlt
    obtain ⟨Av, cv, rfl, hcv⟩ := SlV.shape hva
    replace c0 := (hb.cell (p := ⟨b, off + k * 2, none⟩) hbl).trans c0
    replace c1 := (hb.cell (p := ⟨b, off + k * 2 + 1, none⟩) hbl).trans c1
    have hltI : (k : Int) < (l.length : Int) := by omega
    obtain ⟨hn9, hv9, _⟩ := hs.2 l[k] (List.getElem_mem hlt)
    have hL := fun W => lower_any (B l[k].name) W (by rw [Idn.size_B]; omega)
    rw [Idn.L_B] at hL
    have hstep := Idn.grp_step l k hlt (ps.map (·.1))
    generalize Idn.lower l[k].name = nm at *
    obtain ⟨wo, hwo⟩ : ∃ wo : World, wo = wr := ⟨_, rfl⟩
    subst hwo
    go_wp2_with fail
    with_reducible refine gen1 (R := fun W => Calls Tryz.prog 125 _ W _) ?_
    intro W hbW hszW hc1 _
    have d0 : W.cell? ⟨wo.heap.size, 0, none⟩ = some (.string (B l[k].name)) := hc1 0 _ rfl
    have d1 : W.cell? ⟨wo.heap.size, 1, none⟩ = some (.slice Av l[k].vals.length cv) := hc1 1 _ rfl
    clear hc1 hszW c0 c1
    refine (hL W).mono ?_
    rintro e w1 ⟨rfl, hb1⟩
    clear hL
    have hbo1 := hbW.trans (hb1.mono hbW.size)
    replace d1 := cell_later hb1 d1
    have hown1 := hown.keep hbo1
    have hlo := fun g => own_lt hown.1 (g := g)
    clear hown d0
    obtain ⟨Au, cu, hu⟩ := own_shape hown1.1
    rw [hu] at hlo
    subst hu
    go_wp2_with fail
    with_reducible refine gen1 (R := fun W => Calls Tryz.prog 131 _ W _) ?_
    intro W2 hbW2 hszW2 hc2 _
    have q0 : W2.cell? ⟨w1.heap.size, 0, none⟩ = some (.string (B nm)) := hc2 0 _ rfl
    clear hc2
    have hI := idxA_any 132 #[.pointer (some ⟨w1.heap.size, 0, none⟩)] fn_sorted1 _ _ _ W2 (hown1.keep hbW2).names (by rw [List.length_map]; omega) (sorted1_any.pred w1.heap.size (B nm) _ W2 q0)
    rw [Idn.L_B] at hI
    have hix : idxP (fun x : Bs × Nat => decide (x.1 = nm)) (ps.map fun p => (p.1.name, p.1.vals.length)) = idxP (fun a : Idn.Att => decide (a.name = nm)) (ps.map (·.1)) := by unfold idxP; rw [ixAdd]
    rw [hix] at hI
    clear hix
    refine hI.mono ?_
    rintro e w2 ⟨rfl, hb2⟩
    have hb12 := hbW2.trans (hb2.mono hbW2.size)
    have hown2 := hown1.keep hb12
    have q2 := cell_later hb2 q0
    have d2 := cell_later hb12 d1
    have hbo2 := hbo1.trans (hb12.mono hbo1.size)
    have hbw2 := hb.trans (hbo2.mono hb.size)
    clear hI hown1 d1 q0 hszW2
    go_upto_if 22 with fail
    go_cut [3, 7] (fun u i wx => ∃ (qs : List (Idn.Att × Value)) (j : Nat) (p : Idn.Att × Value), i = .int .i64 j ∧ AttOwn wx w.heap.size u qs ∧ qs[j]? = some p ∧ Hid ((qs.map (·.1)).set j ⟨p.1.name, p.1.vals ++ l[k].vals⟩ = Idn.addA (ps.map (·.1)) nm l[k].vals) ∧ qs.length ≤ k + 1 ∧ (∀ p ∈ qs, p.1.vals.length ≤ k * 1100000) ∧ Below w.heap.size w wx ∧ wx.cell? ⟨wo.heap.size, 1, none⟩ = some (.slice Av l[k].vals.length cv))
    case first =>
     cases hx : (ps.map (·.1)).findIdx? (fun a => decide (a.name = nm)) with
     | none =>
      have hAd := Idn.addA_none l[k].vals hx
      rw [idxP_none hx]
      clear hx
      go_wp2_with (at_builtin; refine wpList_push w2 rfl _ _ 46 rfl w.heap.size 96 (.agg #[.string ⟨#[]⟩, .slice none 0 0]) 2 40 Tryz.underlying46 info_attr rfl (by decide) _ ps.length _ hown2.1 rfl [.string (B nm), .slice none 0 0] rfl rfl (by intro u hu; simp at hu; rcases hu with rfl | rfl <;> rfl) (by omega) hbw2.size ?_ rfl)
      intro v' w3 hown3 hg3 hat3 hb3 _
      have hP := hown2.push (n := nm) hown3 hg3
      have d3 : w3.cell? ⟨wo.heap.size, 1, none⟩ = some (.slice Av l[k].vals.length cv) := by
       rw [World.cell?_of_block (w := w2) (hg3.block wo.heap.size (World.block_lt_of_cell? _ _ d2) (fun e => by have := hlo _ e.symm; omega))]
       exact d2
      have HS : Hid (((ps ++ [((⟨nm, []⟩ : Idn.Att), Value.slice none 0 0)]).map (·.1)).set ps.length ⟨nm, [] ++ l[k].vals⟩ = Idn.addA (ps.map (·.1)) nm l[k].vals) := by
       show _ = _
       rw [hAd, List.map_append, List.set_append_right _ _ (by simp)]
       simp
      clear hAd
      go_wp2_with fail
      go_meet
      refine ⟨_, ps.length, (⟨nm, []⟩, .slice none 0 0), rfl, hP, by simp, HS, by simp; omega, ?_, hbw2.trans hb3, d3⟩
      intro p hp
      rcases List.mem_append.1 hp with hp | hp
      ·exact hpv p hp
      ·simp at hp; subst hp; simp
     | some j =>
      have hjl : j < (ps.map (·.1)).length := (List.findIdx?_eq_some_iff_getElem.1 hx).1
      have hAd := Idn.addA_some l[k].vals hx hjl
      rw [idxP_some hx]
      have hj0 : ¬ ((j : Int) < 0) := by omega
      rw [List.length_map] at hjl
      have HS : Hid ((ps.map (·.1)).set j ⟨ps[j].1.name, ps[j].1.vals ++ l[k].vals⟩ = Idn.addA (ps.map (·.1)) nm l[k].vals) := by
       show _ = _
       rw [hAd]; simp
      clear hx hAd
      go_wp2_with fail
      go_meet
      exact ⟨ps, j, ps[j], rfl, hown2, List.getElem?_eq_getElem hjl, HS, by omega, hpv, hbw2, d2⟩
    case rest =>
     obtain ⟨qs, j, p, rfl, hownc, hpj, hset, hql, hqv, hbc, d3⟩ := hcut
     have hjl := (List.getElem?_eq_some_iff.1 hpj).1
     obtain ⟨g, cap, hu, _, hgl⟩ := hownc.1.form (by omega)
     subst hu
     have hjI : (j : Int) < (qs.length : Int) := by omega
     obtain ⟨Ap, cp, hup⟩ := own_shape (hownc.2.1 p (List.mem_of_getElem? hpj))
     have hcells : wc.cell? ⟨g, j * 2 + 1, none⟩ = some (.slice Ap p.1.vals.length cp) := by
      have e : ∀ j, ((⟨g, 0, none⟩ : Addr).add j) = ⟨g, j, none⟩ := fun j => by unfold Addr.add; split <;> simp_all
      have := hownc.1.cells (g := g) rfl _ _ (rowA_at qs j p hpj).2
      rw [e, hup] at this
      exact this
     have hownd : AttOwn wc.drew w.heap.size (.slice (some ⟨g, 0, none⟩) qs.length cap) qs := hownc
     have hownp : wc.drew.ownsRow w.heap.size 9 1 (.slice Ap p.1.vals.length cp) p.1.vals.length (p.1.vals.map sv) := by
      have := hownc.2.1 p (List.mem_of_getElem? hpj)
      rw [hup] at this
      exact this
     have hvd : StrsV wc.drew w.heap.size (.slice Av l[k].vals.length cv) l[k].vals := by
      have : StrsV wc w.heap.size (.slice Av l[k].vals.length cv) l[k].vals := SlV.keep hva hbc
      exact this
     have hbd : w.heap.size ≤ wc.drew.heap.size := hbc.size
     have hpk := hqv p (List.mem_of_getElem? hpj)
     have hkk : k * 1100000 ≤ 900 * 1100000 := Nat.mul_le_mul_right _ (by omega)
     clear hownc hown2 hb12 hb1 hbW hbo1 hbo2 hbw2 hb2 hbW2 q2 d2
     go_wp2_with fail
     go_region_law (refine step_appendS rfl _ _ 26 rfl w.heap.size 9 Tryz.underlying26 info_str _ _ _ hownp rfl _ l[k].vals _ hvd rfl (by omega) hbd ?_; intro v' w' hown' hg' hat'; obtain ⟨st1, st2, hnew⟩ := hownd.grow hpj hown' (by rw [hup]; exact hg') (by rw [hup]; exact hat'); rw [hup] at st1; obtain ⟨A9, c9, hv9⟩ := own_shape hown'; subst hv9)
     all_goals
      have hHF : Hid (Idn.grp ((qs.set j (⟨p.1.name, p.1.vals ++ l[k].vals⟩, .slice A9 (p.1.vals.length + l[k].vals.length) c9)).map (·.1)) (l.drop (k + 1)) = Idn.grp [] l) := by
       show _ = _
       rw [List.map_set, hset.out, ← hstep]; exact hinv.out
      have hgb : w.heap.size ≤ g := (hownd.1.lt g rfl).1
      have hbf : Below w.heap.size w (w'.setCell ⟨g, j * 2 + 1, none⟩ (.slice A9 (p.1.vals.length + l[k].vals.length) c9)) :=
       (((hbc.drew).grown hg' hbc.size (fun k' hk' => (hownp.lt k' hk').1))).setCell (p := ⟨g, j * 2 + 1, none⟩) hgb _
      go_wp2_with fail
      go_roundw
      case rel =>
       refine ⟨k + 1, _, by omega, by go_num, hnew, hbf, hHF, by rw [List.length_set]; exact hql, fun q hq => ?_⟩
       rcases List.mem_or_eq_of_mem_set hq with hq | rfl
       ·exact Nat.le_trans (hqv q hq) (Nat.mul_le_mul_right _ (Nat.le_succ k))
       ·show (p.1.vals ++ l[k].vals).length ≤ _; rw [List.length_append, Nat.succ_mul]; exact Nat.add_le_add hpk hv9
      case measure => simp [intOf]; omega
   ·have hltI : ¬ (k : Int) < (l.length : Int) := by omega
    have HF : Hid (ps.map (·.1) = Idn.grp [] l) := by show _ = _; rw [← hinv.out, List.drop_eq_nil_of_le (by omega)]; rfl
    go_wp2_with fail
    go_meet
    refine ⟨ps, hown, hb, HF, by omega, fun p hp => ?_⟩
    have := hpv p hp
    have : k * 1100000 ≤ 900 * 1100000 := Nat.mul_le_mul_right _ (by omega)
    omega
 case rest =>
  obtain ⟨ps0, hown0, hb, hps0, hpl0, hpv0⟩ := hcut
  have hD := delA_any 134 #[] fn_sorted2 (fun x => ((x.2 : Nat) : Int) == 0) w.heap.size _ ps0 wc hown0 hb.size (by omega) (fun g _ => sorted2_pred g wc)
  have hps1 := full_map ps0
  have hne0 : ∀ p ∈ (ps0.filter fun q => !((((nmA q).2 : Nat) : Int) == 0)), p.1.vals.length ≠ 0 := fun p hp h0 => by
   have := (List.mem_filter.1 hp).2
   unfold nmA at this
   rw [h0] at this
   simp at this
  have hpl1 : (ps0.filter fun q => !((((nmA q).2 : Nat) : Int) == 0)).length ≤ 1000 := Nat.le_trans (List.length_filter_le _ _) hpl0
  have hpv1 : ∀ p ∈ (ps0.filter fun q => !((((nmA q).2 : Nat) : Int) == 0)), p.1.vals.length ≤ 1000000000 := fun p hp => hpv0 p (List.mem_filter.1 hp).1
  rw [hps0.out] at hps1
  generalize (ps0.filter fun q => !((((nmA q).2 : Nat) : Int) == 0)) = ps at *
  have hps := Lib.hid hps1
  have hne' := hne0
  have hpl := hpl1
  have hpv := hpv1
  obtain ⟨Au0, cu0, hu0⟩ := own_shape hown0.1
  subst hu0
  clear hown0 hps0 hpl0 hpv0 hps1 hne0 hpl1 hpv1
  go_wp2_with fail
  refine hD.mono ?_
  rintro e w1 ⟨v1, rfl, hown1, hb1⟩
  have hbw1 := hb.trans hb1
  obtain ⟨Au, cu, hu⟩ := own_shape hown1.1
  subst hu
  clear hD
  go_upto_block 2 with fail
  go_cut [] (fun wx => ∃ qs, AttOwn wx w.heap.size (.slice Au ps.length cu) qs ∧ Below w.heap.size w wx ∧ Hid (qs.map (·.1) = (ps.map (·.1)).map Idn.normA) ∧ qs.length = ps.length)
  case first =>
   go_wp2_with fail
   go_loopw [8, 47] (fun _ i wr => ∃ (k : Nat) (qs : List (Idn.Att × Value)), k ≤ ps.length ∧ i = .int .i64 k ∧ AttOwn wr w.heap.size (.slice Au ps.length cu) qs ∧ Below w.heap.size w wr ∧ Hid (qs.map (·.1) = ((ps.map (·.1)).take k).map Idn.normA ++ (ps.map (·.1)).drop k) ∧ qs.length = ps.length) (fun _ i _ => ps.length - (intOf i).toNat)
   case atStart => exact ⟨0, ps, Nat.zero_le _, rfl, hown1, hbw1, by show _ = _; simp, rfl⟩
   case round =>
    obtain ⟨k, qs, hk, rfl, hown, hbr, hinv, hql⟩ := hrel
    by_cases hlt : k < ps.length
    ·have hltI : (k : Int) < (ps.length : Int) := by omega
     obtain ⟨q, hqk⟩ : ∃ q, qs[k]? = some q := ⟨_, List.getElem?_eq_getElem (by omega)⟩
     obtain ⟨g, cap, hu, _, hgl⟩ := hown.1.form (by omega)
     injection hu with hu1 hu2 hu3
     subst hu1 hu3
     have hqm : q ∈ qs := List.mem_of_getElem? hqk
     have hq1 : q.1 = ps[k].1 := by
      have := congrArg (·[k]?) hinv.out
      simp only [List.getElem?_map, hqk, Option.map_some] at this
      rw [List.getElem?_append_right (by simp; omega)] at this
      simp [hlt, Nat.min_eq_left (Nat.le_of_lt hlt)] at this
      exact this
     have hpm : ps[k] ∈ ps := List.getElem_mem _
     have hvn := hne' _ hpm
     have hvb := hpv _ hpm
     obtain ⟨k0, k1, kf, kb⟩ := hown.cell hqk
     have hou := hown.2.1 _ hqm
     rw [hq1] at hou
     obtain ⟨g1, cap1, hv1, hgb1, hg1⟩ := hou.form (by omega)
     rw [hv1] at hou k1
     have hSo := sort_own g1 cap1 ps[k].1.vals w.heap.size wr hou (by omega) hvb hbr.size
     have hHq : Hid (qs.set k (⟨ps[k].1.name, Lib.compact (sorted ps[k].1.vals)⟩, q.2) = qs.set k (⟨ps[k].1.name, Lib.compact (sorted ps[k].1.vals)⟩, q.2)) := rfl
     have HQK := Lib.hid hqk
     have HQ1 := Lib.hid hq1
     have HV1 := Lib.hid hv1
     have HQL := Lib.hid hql
     clear hHq hqk hq1 hv1 hql k0 hu2
     go_wp2_with fail
     refine hSo.mono ?_
     rintro e w2 ⟨rfl, hou2, hg2⟩
     have hsl : (sorted ps[k].1.vals).length = ps[k].1.vals.length := sorted_len _
     have hou2' : w2.ownsRow w.heap.size 9 1 (.slice (some ⟨g1, 0, none⟩) (sorted ps[k].1.vals).length cap1) (sorted ps[k].1.vals).length ((sorted ps[k].1.vals).map sv) := by rw [hsl]; exact hou2
     have hown2 := hown.turn (vals := sorted ps[k].1.vals) HQK.out (by rw [HV1.out, hsl]; exact hou2) (by rw [HV1.out]; exact hg2)
     have hk2 : (qs.set k (⟨q.1.name, sorted ps[k].1.vals⟩, q.2))[k]? = some (⟨q.1.name, sorted ps[k].1.vals⟩, q.2) := by simp [HQL.out, hlt]
     obtain ⟨_, k12, kf2, _⟩ := hown2.cell hk2
     rw [HV1.out] at k12
     have hb2 : Below w.heap.size w w2 := hbr.grown hg2 hbr.size (fun x hx => by injection hx with hx; omega)
     have hCo := compact_own g1 cap1 (sorted ps[k].1.vals) w.heap.size w2 hou2' (by rw [hsl]; omega) (by rw [hsl]; exact hvb)
     rw [hsl] at hCo
     have hgl2 : g < w2.heap.size := World.block_lt_of_cell? _ _ k12
     clear hSo hown hou2 hou2' hou kf k1 hsl
     go_wp2_with fail
     refine hCo.mono ?_
     rintro e w3 ⟨rfl, hou3, hg3⟩
     clear hCo
     obtain ⟨st1, st2, hown3⟩ := hown2.put (u' := .slice (some ⟨g1, 0, none⟩) (Lib.compact (sorted ps[k].1.vals)).length cap1) hk2 hou3 (by rw [HV1.out]; exact hg3) (.inl (by rw [HV1.out]; rfl))
     dsimp only at st1 hown3
     rw [HV1.out] at st1
     have hb3 : Below w.heap.size w w3 := hb2.grown hg3 hb2.size (fun x hx => by injection hx with hx; omega)
     have hgl3 : g < w3.heap.size := World.block_lt_of_cell? _ _ st1
     have HF : Hid (((qs.set k (⟨q.1.name, sorted ps[k].1.vals⟩, q.2)).set k (⟨q.1.name, Lib.compact (sorted ps[k].1.vals)⟩, .slice (some ⟨g1, 0, none⟩) (Lib.compact (sorted ps[k].1.vals)).length cap1)).map (·.1) = ((ps.map (·.1)).take (k + 1)).map Idn.normA ++ (ps.map (·.1)).drop (k + 1)) := by
      show _ = _
      rw [List.set_set, List.map_set, hinv.out, HQ1.out]
      have hl : k < (ps.map (·.1)).length := by simpa using hlt
      rw [List.set_append_right _ _ (by simp; omega), List.take_succ_eq_append_getElem hl, List.map_append, List.drop_eq_getElem_cons hl]
      simp [Nat.min_eq_left (Nat.le_of_lt hlt)]
      rfl
     clear hown2 hk2 k12 kf2 hou3
     go_wp2_with fail
     go_roundw
     case rel => exact ⟨k + 1, _, by omega, by go_num, hown3, hb3.setCell (p := ⟨g, k * 2 + 1, none⟩) kb _, HF, by rw [List.length_set, List.length_set]; exact HQL.out⟩
     case measure => simp [intOf]; omega
    ·have hltI : ¬ (k : Int) < (ps.length : Int) := by omega
     have HF : Hid (qs.map (·.1) = (ps.map (·.1)).map Idn.normA) := by
      show _ = _
      rw [hinv.out, List.take_of_length_le (by simp; omega), List.drop_eq_nil_of_le (by simp; omega), List.append_nil]
     go_wp2_with fail
     go_meet
     exact ⟨qs, hown, hbr, HF, hql⟩
  case rest =>
   obtain ⟨qs, hown, hb, hq, hql⟩ := hcut
   have hnd : ((qs.map (·.1)).map (·.name)).Nodup := by
    rw [hq.out, Idn.norm_names, hps.out]
    exact (List.filter_sublist.map _).nodup (Idn.grp_nd l [] (by simp))
   have hS := sortA_any _ w.heap.size qs wc hown hb.size (by omega) hnd
   rw [hq.out, hps.out, Idn.sortedG_law] at hS
   clear hown
   go_wp2_with fail
   refine hS.mono ?_
   rintro e w4 ⟨rfl, qs', hown', hq', hb'⟩
   clear hS
   go_wp2_with fail
   go_ret
   exact ⟨_, qs', rfl, hown', hq', hb.trans hb'⟩
end Go.Proofs.YtbkkchhimhlhcaaGreatDoor
/- attrs: Names, Get, at attributes that may have no values. -/
namespace Go.Proofs.YtbkkchhimhlhcaaGreatDoor
open Go.RowKit Go.Sort
open Idn (L B Bs drop_L take_L size_L)
theorem rSorted_le (l : List Idn.Att) : (Idn.rSorted l).length ≤ l.length := by
 rw [← Idn.sortedG_law, List.length_mergeSort, List.length_map]
 have h1 := List.length_filter_le Idn.full (Idn.grp [] l)
 have h2 := grp_len l []
 simp only [List.length_nil, Nat.zero_add] at h2
 omega
theorem rGet_len {l : List Idn.Att} (hs : Idn.ASm7 l) (n : Bs) : (rGet l n).length ≤ 1000000000 := by
 unfold rGet
 split
 ·simp
 ·split
  ·simp
  ·rename_i a ha
   have hm := List.mem_of_getElem? ha
   rw [← Idn.sortedG_law] at hm
   obtain ⟨b, hb, rfl⟩ := List.mem_map.1 ((List.mergeSort_perm _ _).mem_iff.1 hm)
   have h1 := Lib.compact_length_le (Idn.srt b.vals)
   have h2 : (Idn.srt b.vals).length = b.vals.length := by simp [Idn.srt]
   have h3 := Idn.grp_le 1100000 l [] 0 (by simp) (fun a ha => (hs.2 a ha).2.1) b (List.mem_filter.1 hb).1
   have h4 := Nat.mul_le_mul_right 1100000 hs.1
   show (Lib.compact (Idn.srt b.vals)).length ≤ _
   omega
theorem getG_any (v : Value) (l : List Idn.Att) (n : ByteArray) (w : World) (hv : AttsV w w.heap.size v l) (hs : Idn.ASm7 l) (hn : n.size ≤ 1000000000) :
    Calls Tryz.prog 139 #[v, .string n] w fun e w' => ∃ A c, e = .returned (.slice A (rGet l (L n)).length (rGet l (L n)).length) ∧ w'.ownsRow w.heap.size 9 1 (.slice A (rGet l (L n)).length c) (rGet l (L n)).length ((rGet l (L n)).map sv) ∧ Below w.heap.size w w' := by
 have hS := sortedG_any v l w hv hs
 have hgl := rSorted_le l
 have hl1 := hs.1
 have hres : Hid (rGet l (L n) = match (Idn.rSorted l).findIdx? (fun a => decide (a.name = Idn.lower (L n))) with
  | none => []
  | some k => match (Idn.rSorted l)[k]? with | none => [] | some a => a.vals) := rfl
 have hbd := rGet_len hs (L n)
 generalize rGet l (L n) = res at *
 generalize Idn.rSorted l = q at *
 have hq : q.length ≤ 1000 := by omega
 obtain ⟨A0, c0, rfl, hc0⟩ := SlV.shape hv
 clear hv hs hgl
 go_enter Tryz.func139, Tryz.ntmps139
 go_wp2_with fail
 refine hS.mono ?_
 rintro e w1 ⟨v1, ps, rfl, hown, hpq, hb1⟩
 have hpl : ps.length = q.length := by rw [← hpq, List.length_map]
 have hF := find_any v1 q n w1 (hown.atts hpq) (by omega) hn
 obtain ⟨A, c, hv1⟩ := own_shape hown.1
 subst hv1
 clear hS
 have HPL := Lib.hid hpl
 have HPQ := Lib.hid hpq
 have hpl9 : ps.length ≤ 1000 := by omega
 clear hpq hpl
 cases hx : q.findIdx? (fun a => decide (a.name = Idn.lower (L n))) with
 | none =>
  have HF : Hid (res = []) := by show _ = _; rw [hres.out, hx]
  rw [idxP_none hx] at hF
  clear hx
  go_wp2_with fail
  refine hF.mono ?_
  rintro e w2 ⟨rfl, hb2⟩
  go_wp2
  go_ret
  exact ⟨none, 0, by rw [HF.out]; rfl, by rw [HF.out]; exact World.ownsRow_nil _ _ _ _, hb1.trans (hb2.mono hb1.size)⟩
 | some k =>
  have hkl : k < q.length := (List.findIdx?_eq_some_iff_getElem.1 hx).1
  have HF : Hid (res = q[k].vals) := by show _ = _; rw [hres.out, hx]; simp [hkl]
  rw [idxP_some hx] at hF
  have hkp : k < ps.length := by rw [HPL.out]; exact hkl
  have hkI : (k : Int) < (ps.length : Int) := by omega
  have hk0 : ¬ ((k : Int) < 0) := by omega
  clear hx
  obtain ⟨g, cap, hu, _, hgl⟩ := hown.1.form (by omega)
  injection hu with hu1 hu2 hu3
  subst hu1 hu3
  have hpk : ps[k]? = some ps[k] := List.getElem?_eq_getElem (by omega)
  have hp1 : ps[k].1 = q[k] := by
   have := HPQ.out
   subst this
   simp
  have HP1 := Lib.hid hp1
  have hpm : ps[k] ∈ ps := List.getElem_mem _
  clear hp1
  generalize ps[k] = p at *
  have HPK := Lib.hid hpk
  clear hpk
  obtain ⟨Av, cv, hup⟩ := own_shape (hown.2.1 p hpm)
  go_wp2_with fail
  refine hF.mono ?_
  rintro e w2 ⟨rfl, hb2⟩
  have hown2 := hown.keep hb2
  obtain ⟨c0, c1, _, _⟩ := hown2.cell HPK.out
  have ho := hown2.2.1 p hpm
  rw [hup] at c1 ho
  obtain ⟨Aw, cw, ew, hcw, hrd⟩ := StrsV.of_own ho
  injection ew with ew1 ew2 ew3
  subst ew1
  have hvc : (p.1.vals.length : Int) ≤ (cv : Int) := by omega
  have hv0 : (0 : Int) ≤ (p.1.vals.length : Int) := by omega
  have HO := Lib.hid ho
  clear hF hown hown2 ho hup hpm
  go_wp2
  go_ret
  exact ⟨Av, cv, by rw [HF.out, ← HP1.out]; rfl, by rw [HF.out, ← HP1.out]; exact own_base HO.out (Nat.le_refl _), hb1.trans (hb2.mono hb1.size)⟩
end Go.Proofs.YtbkkchhimhlhcaaGreatDoor
/- entry: missing. -/
namespace Go.Proofs.YtbkkchhimhlhcaaGreatDoor
open Go.RowKit Go.Sort
open Idn (L B Bs drop_L take_L size_L)
end Go.Proofs.YtbkkchhimhlhcaaGreatDoor
/- law07: light, subset, raised. -/
namespace Go.Proofs.YtbkkchhimhlhcaaGreatDoor
open Go.RowKit Go.Sort
open Idn (L B Bs drop_L take_L size_L)
def lightA (a : Idn.Att) : Bool := decide (a.name.length ≤ 300) && (decide (a.vals.length ≤ 20) && a.vals.all fun x => decide (x.length ≤ 300))
def light (l : List Idn.Att) : Bool := l.all lightA && decide (l.length ≤ 40)
end Go.Proofs.YtbkkchhimhlhcaaGreatDoor
/- law07: raised. -/
namespace Go.Proofs.YtbkkchhimhlhcaaGreatDoor
open Go.RowKit Go.Sort
open Idn (L B Bs drop_L take_L size_L)
theorem PairAt.grown {w w' : World} {p : Nat} {a b : Value} {row : Option Nat} (h : PairAt w p a b) (hg : w.grownBy w' row) (hne : some p ≠ row) (hs : w.heap.size ≤ w'.heap.size) : PairAt w' p a b := by
 obtain ⟨⟨h0, h1⟩, ⟨g0, g1⟩, hl⟩ := h
 exact ⟨⟨grown_cell hg h0 hne, grown_cell hg h1 hne⟩, ⟨grown_frozen hg hl g0 hne, grown_frozen hg hl g1 hne⟩, Nat.lt_of_lt_of_le hl hs⟩
end Go.Proofs.YtbkkchhimhlhcaaGreatDoor
/- identityref02: Int. -/
namespace Go.Proofs.YtbkkchhimhlhcaaGreatDoor
open Go.RowKit Go.Sort
open Idn (L B Bs drop_L take_L size_L)
theorem ddig_step {u : Nat} (h : u ≠ 0) : ∃ x : UInt8, x.toNat = 48 + u % 10 ∧ Lib.decDigits u = (if u / 10 = 0 then [] else Lib.decDigits (u / 10)) ++ [x] := by
 refine ⟨UInt8.ofNat (48 + u % 10), by simp; omega, ?_⟩
 by_cases h1 : u < 10
 ·rw [if_pos (by omega), Lib.decDigits_one h1, Nat.mod_eq_of_lt h1]; rfl
 ·rw [if_neg (by omega), Lib.decDigits, dif_neg h1]
theorem ddig_len {u k : Nat} (h : u < 10 ^ (k + 1)) : (Lib.decDigits u).length ≤ k + 1 := by
 induction k generalizing u with
 | zero => rw [Lib.decDigits_one (by omega)]; simp
 | succ k ih =>
  by_cases h1 : u < 10
  ·rw [Lib.decDigits_one h1]; simp
  ·rw [Lib.decDigits, dif_neg h1, List.length_append]
   have := ih (u := u / 10) (by rw [Nat.pow_succ] at h; omega)
   simp only [List.length_cons, List.length_nil]; omega
theorem run_one {P : Program} {w : World} (src dst e : TypeId) (hs : P.underlying src = some (.slice e)) (hd : P.underlying dst = some .string) (he : P.underlying e = some (.int .u8)) (x : UInt8) :
  (convert src dst (.slice (some { block := w.heap.size, off := 0 }) 1 1)).run P (w.alloc (.cells #[.int .u8 (x.toNat : Int)] e)) = .ok (.string (B [x])) (w.alloc (.cells #[.int .u8 (x.toNat : Int)] e)) := by
 have h := run_convert_bytes_arg (P := P) (w.alloc (.cells #[.int .u8 (x.toNat : Int)] e)) src e hs he w.heap.size 0 1 1 [(x.toNat : Int)] rfl (fun i hi => by
  have : i = 0 := by simpa using hi
  subst this
  exact World.cell?_alloc_mark w #[.int .u8 (x.toNat : Int)] e (0, 0) 0) dst hd
 rw [h]
 congr 3
 show (⟨_⟩ : ByteArray) = _
 simp [B]
def IntInv (n m : Int) (out : Bs) : Prop := Lib.decDigits n.natAbs = (if m = 0 then [] else Lib.decDigits m.natAbs) ++ out ∧ out.length ≤ 20 ∧ m.natAbs ≤ 9223372036854775808
theorem r_Int_any (n : Int) (h1 : -9223372036854775808 ≤ n) (h2 : n ≤ 9223372036854775807) (w : World) : Calls Tryz.prog 263 #[.int .i64 n] w fun e w' => e = .returned (.string (B (Lib.itoa n))) ∧ Below w.heap.size w w' := by
 generalize hr : Lib.itoa n = r
 have HR : Hid (r = Lib.itoa n) := hr.symm
 clear hr
 by_cases h0 : n = 0
 ·have HF : Hid (r = [48]) := by show _ = _; rw [HR.out, h0]; decide +kernel
  have e0 : (n == 0) = true := by rw [beq_iff_eq]; exact h0
  clear HR h0
  go_enter Tryz.func263, Tryz.ntmps263
  go_wp2
  go_ret
  exact ⟨by rw [HF.out]; rfl, Below.refl _ _⟩
 ·have e0 : (n == 0) = false := by rw [beq_eq_false_iff_ne]; exact h0
  have hlen := ddig_len (u := n.natAbs) (k := 18) (by omega)
  go_enter Tryz.func263, Tryz.ntmps263
  go_wp2
  go_loopw [3, 4] (fun o i wr => ∃ (m : Int) (out : Bs), i = .int .i64 m ∧ o = .string (B out) ∧ Below w.heap.size w wr ∧ -9223372036854775808 ≤ m ∧ m ≤ 9223372036854775807 ∧ Hid (IntInv n m out)) (fun _ i _ => (intOf i).natAbs)
  case atStart => exact ⟨n, [], rfl, rfl, Below.refl _ _, h1, h2, by show IntInv _ _ _; exact ⟨by rw [if_neg h0]; simp, by simp, by omega⟩⟩
  case round =>
   obtain ⟨m, out, rfl, rfl, hb, m1, m2, hI⟩ := hrel
   by_cases hm : m = 0
   ·have em : (m == 0) = true := by rw [beq_iff_eq]; exact hm
    have hfin : Lib.decDigits n.natAbs = out := by have := hI.out.1; rw [if_pos hm] at this; simpa using this
    have hsz : (B out).size ≤ 1000 := by rw [Idn.size_B]; have := hI.out.2.1; omega
    clear hI hm hlen
    rcases Int.lt_or_le n 0 with hn | hn
    ·have HF : Hid (r = 45 :: out) := by show _ = _; rw [HR.out, ← hfin]; unfold Lib.itoa; rw [if_pos hn]
     clear hfin HR
     go_wp2
     go_ret
     exact ⟨by rw [HF.out, show (45 :: out) = [45] ++ out from rfl, ← B_app] <;> rfl, hb⟩
    ·have HF : Hid (r = out) := by show _ = _; rw [HR.out, ← hfin]; unfold Lib.itoa; rw [if_neg (by omega), show n.toNat = n.natAbs by omega]
     have hnI : ¬ n < 0 := by omega
     clear hfin HR
     go_wp2
     go_ret
     exact ⟨by rw [HF.out] <;> rfl, hb⟩
   ·have em : (m == 0) = false := by rw [beq_eq_false_iff_ne]; exact hm
    have hsz : (B out).size ≤ 1000 := by rw [Idn.size_B]; have := hI.out.2.1; omega
    have hcn : (Int.tmod m 10).natAbs = m.natAbs % 10 := by rw [Int.natAbs_tmod]; rfl
    have hdn : (Int.tdiv m 10).natAbs = m.natAbs / 10 := by rw [Int.natAbs_tdiv]; rfl
    obtain ⟨x, hx, hstep⟩ := ddig_step (u := m.natAbs) (by omega)
    obtain ⟨c, hc⟩ : ∃ c : Nat, c = m.natAbs % 10 := ⟨_, rfl⟩
    rw [← hc] at hcn hx
    have hc9 : c ≤ 9 := by omega
    have hxI : (x.toNat : Int) = 48 + (c : Int) := by omega
    have hone := run_one (P := Tryz.prog) (w := wr) 179 9 5 Tryz.underlying179 Tryz.underlying9 Tryz.underlying5 x
    rw [hxI] at hone
    have hx1 : (B [x]).size = 1 := rfl
    have hI2 : Hid (IntInv n (Int.tdiv m 10) (x :: out)) := by
     show IntInv _ _ _
     obtain ⟨i1, i2, i3⟩ := hI.out
     have e : Lib.decDigits n.natAbs = (if Int.tdiv m 10 = 0 then [] else Lib.decDigits (Int.tdiv m 10).natAbs) ++ x :: out := by
      rw [i1, if_neg hm, hstep, hdn, List.append_assoc]
      by_cases h10 : m.natAbs / 10 = 0
      ·rw [if_pos h10, if_pos (by omega)]; rfl
      ·rw [if_neg h10, if_neg (by omega)]; rfl
     refine ⟨e, ?_, by omega⟩
     have := congrArg List.length e
     rw [List.length_append] at this
     omega
    have hmn : Hid (Int.natAbs (Int.tdiv m 10) < m.natAbs) := by show _ < _; omega
    have hm1 : -9223372036854775808 ≤ Int.tdiv m 10 := by omega
    have hm2 : Int.tdiv m 10 ≤ 9223372036854775807 := by omega
    have q4 : IntKind.i64.wrap (Int.tdiv m 10) = Int.tdiv m 10 := IntWalk.i64_in _ ⟨hm1, hm2⟩
    have q5 : IntKind.i64.wrap (48 + (c : Int)) = 48 + (c : Int) := IntWalk.i64_in _ ⟨by omega, by omega⟩
    have q6 : (48 + (c : Int)) % 256 = 48 + (c : Int) := by omega
    by_cases hd : Int.tmod m 10 < 0
    ·have q0 : IntKind.i64.wrap (-(Int.tmod m 10)) = c := by rw [show -(Int.tmod m 10) = (c : Int) by omega]; exact IntWalk.i64_in _ ⟨by omega, by omega⟩
     clear hI hm hlen hcn hdn hstep hc hxI hx
     go_wp2
     go_roundw
     case rel => exact ⟨Int.tdiv m 10, x :: out, rfl, by rw [show x :: out = [x] ++ out from rfl, B_app], hb.alloc (by have := hb.size; omega) _, hm1, hm2, hI2⟩
     case measure => first | exact hmn.out | (simp [intOf]; omega)
    ·have q0 : Int.tmod m 10 = c := by omega
     clear hI hm hlen hcn hdn hstep hc hxI hx
     go_wp2
     go_roundw
     case rel => exact ⟨Int.tdiv m 10, x :: out, rfl, by rw [show x :: out = [x] ++ out from rfl, B_app], hb.alloc (by have := hb.size; omega) _, hm1, hm2, hI2⟩
     case measure => first | exact hmn.out | (simp [intOf]; omega)
end Go.Proofs.YtbkkchhimhlhcaaGreatDoor
/- identityref07: number. -/
namespace Go.Proofs.YtbkkchhimhlhcaaGreatDoor
open Go.RowKit Go.Sort
open Idn (L B Bs drop_L take_L size_L)
theorem drop0 (u : ByteArray) (h : ¬ 0 < u.size) : L u = [] := by have := drop_end u 0 h; simpa using this
theorem r7_number_any (s : ByteArray) (w : World) (hs : s.size ≤ 999999999) : Calls Tryz.prog 262 #[.string s] w fun e w' => e = .returned (.tuple #[.int .i64 (Idn.number2 (L s)).1, .bool (Idn.number2 (L s)).2]) ∧ w = w' := by
 generalize hr : Idn.number2 (L s) = r
 have HR : Hid (r = Idn.number2 (L s)) := hr.symm
 clear hr
 unfold Idn.number2 at HR
 obtain ⟨t, m, hm, hts, hmag, hway⟩ : ∃ (t : ByteArray) (m : Bool), m = Idn.isMinus (L s) ∧ t.size ≤ s.size ∧ L t = Idn.mag2 (L s) ∧
     ((m = true ∧ 0 < s.size ∧ t = s.extract 1 s.size ∧ ∃ h : 0 < s.size, ((s[0].toNat : Int) == 45) = true) ∨ (m = false ∧ t = s ∧ (¬ 0 < s.size ∨ ∃ h : 0 < s.size, ((s[0].toNat : Int) == 45) = false))) := by
  by_cases h0 : 0 < s.size
  ·have hd := drop_L s 0 h0
   simp only [List.drop_zero] at hd
   by_cases h45 : s[0] = 45
   ·have hm : Idn.isMinus (L s) = true := by rw [hd, h45]; rfl
    refine ⟨s.extract 1 s.size, true, hm.symm, by simp, ?_, .inl ⟨rfl, h0, rfl, h0, byte_is (d := 45) h45⟩⟩
    unfold Idn.mag2
    rw [hm, if_pos rfl, extract_drop, Idn.L_B]
    conv => rhs; rw [hd]
    rfl
   ·have hm : Idn.isMinus (L s) = false := by rw [hd]; simpa [Idn.isMinus] using h45
    refine ⟨s, false, hm.symm, Nat.le_refl _, ?_, .inr ⟨rfl, rfl, .inr ⟨h0, byte_not (d := 45) h45⟩⟩⟩
    unfold Idn.mag2
    rw [hm]; rfl
  ·have he : L s = [] := by have := drop_end s 0 h0; simpa using this
   refine ⟨s, false, by rw [he]; rfl, Nat.le_refl _, by rw [he]; rfl, .inr ⟨rfl, rfl, .inl h0⟩⟩
 rw [← hmag, ← hm] at HR
 clear hm hmag
 rcases hway with ⟨rfl, h0, rfl, h00, e1⟩ | ⟨rfl, rfl, h0 | ⟨h0, e1⟩⟩
 ·go_enter Tryz.func262, Tryz.ntmps262
  go_wp2
  generalize s.extract 1 s.size = t at *
  go_loop [0] (fun x => ∃ u : ByteArray, x = .string u ∧ u.size ≤ t.size ∧ Hid (Idn.stripZ (L u) = Idn.stripZ (L t))) (fun x => vSize x)
  case atStart => exact ⟨t, rfl, Nat.le_refl _, rfl⟩
  case round =>
   obtain ⟨u, rfl, hut, hinv⟩ := hrel
   by_cases h1 : 1 < u.size
   ·try (exfalso; omega)
    all_goals
     have h1I : (1 : Int) < (u.size : Int) := by omega
     have h2 := drop_two u 0 h1
     simp only [List.drop_zero] at h2
     by_cases h48 : u[0] = 48
     ·have e48 : ((u[0].toNat : Int) == 48) = true := byte_is (d := 48) h48
      have HI : Hid (Idn.stripZ (L (u.extract 1 u.size)) = Idn.stripZ (L t)) := by
       show _ = _
       rw [← hinv.out, extract_drop, Idn.L_B, h2, Idn.stripZ, if_pos (by simpa using h48)]
       try simp
      clear h2 h48 hinv HR
      go_wp2
      go_round
      case rel => exact ⟨u.extract 1 u.size, rfl, by simp; omega, HI⟩
      case measure => simp [vSize]; omega
     ·have e48 : ((u[0].toNat : Int) == 48) = false := byte_not (d := 48) h48
      have HE : Hid (L u = Idn.stripZ (L t)) := by show _ = _; rw [← hinv.out, h2, Idn.stripZ, if_neg (by simpa using h48)]
      clear h2 h48 hinv
      by_cases hu0 : 0 < u.size
      case neg =>
       first
       | (exfalso; omega)
       | (have hemp : (u.toList == ([] : List UInt8)) = true := by rw [toList_L, drop0 u hu0]; rfl
          have HF : Hid (r = (0, false)) := by show _ = _; rw [HR.out, ← HE.out, drop0 u hu0]; rfl
          clear HR HE
          go_wp2
          go_ret2
          exact ⟨by rw [HF.out] <;> rfl, rfl⟩)
      case pos =>
      have hne : L u = u[0] :: (L u).drop 1 := by have := drop_L u 0 hu0; simpa using this
      have hemp : (u.toList == ([] : List UInt8)) = false := by rw [toList_L, hne]; rfl
      have hdg : (L u).isEmpty = false := by rw [hne]; rfl
      have hhd : (L u).headD 0 = u[0] := by rw [hne]; rfl
      clear hne
      by_cases d1 : (u[0].toNat : Int) < 48
      ·have HF : Hid (r = (0, false)) := by
         show _ = _
         have : Idn.digit u[0] = false := by unfold Idn.digit; rw [Bool.and_eq_false_iff, decide_eq_false_iff_not]; left; omega
         rw [HR.out, ← HE.out, hhd, this]; simp
       clear HR HE
       go_wp2
       go_ret2
       exact ⟨by rw [HF.out] <;> rfl, rfl⟩
      ·by_cases d2 : (57 : Int) < (u[0].toNat : Int)
       ·have HF : Hid (r = (0, false)) := by
          show _ = _
          have : Idn.digit u[0] = false := by unfold Idn.digit; rw [Bool.and_eq_false_iff, decide_eq_false_iff_not, decide_eq_false_iff_not]; right; omega
          rw [HR.out, ← HE.out, hhd, this]; simp
        clear HR HE
        go_wp2
        go_ret2
        exact ⟨by rw [HF.out] <;> rfl, rfl⟩
       ·have HG : Hid (r = ((Idn.read2 (Idn.signed true (L u))).1, (Idn.read2 (Idn.signed true (L u))).2 == 0)) := by
          show _ = _
          have : Idn.digit u[0] = true := by rw [Idn.digit_iff]; omega
          rw [HR.out, ← HE.out, hhd, this, hdg]; simp
        clear hdg hhd
        by_cases hz0 : L u = [48]
        ·have hz : (u.toList == ([48] : List UInt8)) = true := by rw [toList_L, hz0]; rfl
         have hQ := fun W => r_ReadInt_any (u) W (by omega)
         have HF : Hid (r = ((Idn.read2 (L (u))).1, (Idn.read2 (L (u))).2 == 0)) := by
          show _ = _
          rw [HG.out]
          rw [hz0]; rfl
         generalize Idn.read2 (L (u)) = q at *
         obtain ⟨n, e⟩ := q
         dsimp only at hQ HF
         clear HR HE HG
         go_wp2_with (go_at_call 305; refine (hQ _).mono ?_; rintro e w1 ⟨rfl, rfl⟩)
         go_ret2
         exact ⟨by rw [HF.out] <;> rfl, rfl⟩
        ·have hz : (u.toList == ([48] : List UInt8)) = false := by rw [toList_L]; simpa using hz0
         have hL45 : L ((⟨#[45]⟩ : ByteArray) ++ u) = 45 :: L u := by
          have : (⟨#[45]⟩ : ByteArray) ++ u = B (45 :: L u) := by rw [show (45 :: L u) = [45] ++ L u from rfl, ← B_app]; rfl
          rw [this, Idn.L_B]
         have hsz45 : ((⟨#[45]⟩ : ByteArray) ++ u).size = 1 + u.size := by
          rw [size_L, hL45, size_L u]; simp; omega
         have hQ := fun W => r_ReadInt_any ((⟨#[45]⟩ : ByteArray) ++ u) W (by rw [hsz45]; omega)
         have HF : Hid (r = ((Idn.read2 (L ((⟨#[45]⟩ : ByteArray) ++ u))).1, (Idn.read2 (L ((⟨#[45]⟩ : ByteArray) ++ u))).2 == 0)) := by
          show _ = _
          rw [HG.out]
          rw [hL45, Idn.signed, if_pos (by simpa using hz0)]
         generalize Idn.read2 (L ((⟨#[45]⟩ : ByteArray) ++ u)) = q at *
         obtain ⟨n, e⟩ := q
         dsimp only at hQ HF
         clear HR HE HG
         go_wp2_with (go_at_call 305; refine (hQ _).mono ?_; rintro e w1 ⟨rfl, rfl⟩)
         go_ret2
         exact ⟨by rw [HF.out] <;> rfl, rfl⟩
   ·have h1I : ¬ (1 : Int) < (u.size : Int) := by omega
    have HE : Hid (L u = Idn.stripZ (L t)) := by
     show _ = _
     rw [← hinv.out]
     have : (L u).length ≤ 1 := by rw [← size_L]; omega
     cases hx : L u with
     | nil => rfl
     | cons a l =>
      cases l with
      | nil => rfl
      | cons b l => rw [hx] at this; simp at this
    clear hinv
    by_cases hu0 : 0 < u.size
    case neg =>
     first
     | (exfalso; omega)
     | (have hemp : (u.toList == ([] : List UInt8)) = true := by rw [toList_L, drop0 u hu0]; rfl
        have HF : Hid (r = (0, false)) := by show _ = _; rw [HR.out, ← HE.out, drop0 u hu0]; rfl
        clear HR HE
        go_wp2
        go_ret2
        exact ⟨by rw [HF.out] <;> rfl, rfl⟩)
    case pos =>
    have hne : L u = u[0] :: (L u).drop 1 := by have := drop_L u 0 hu0; simpa using this
    have hemp : (u.toList == ([] : List UInt8)) = false := by rw [toList_L, hne]; rfl
    have hdg : (L u).isEmpty = false := by rw [hne]; rfl
    have hhd : (L u).headD 0 = u[0] := by rw [hne]; rfl
    clear hne
    by_cases d1 : (u[0].toNat : Int) < 48
    ·have HF : Hid (r = (0, false)) := by
       show _ = _
       have : Idn.digit u[0] = false := by unfold Idn.digit; rw [Bool.and_eq_false_iff, decide_eq_false_iff_not]; left; omega
       rw [HR.out, ← HE.out, hhd, this]; simp
     clear HR HE
     go_wp2
     go_ret2
     exact ⟨by rw [HF.out] <;> rfl, rfl⟩
    ·by_cases d2 : (57 : Int) < (u[0].toNat : Int)
     ·have HF : Hid (r = (0, false)) := by
        show _ = _
        have : Idn.digit u[0] = false := by unfold Idn.digit; rw [Bool.and_eq_false_iff, decide_eq_false_iff_not, decide_eq_false_iff_not]; right; omega
        rw [HR.out, ← HE.out, hhd, this]; simp
      clear HR HE
      go_wp2
      go_ret2
      exact ⟨by rw [HF.out] <;> rfl, rfl⟩
     ·have HG : Hid (r = ((Idn.read2 (Idn.signed true (L u))).1, (Idn.read2 (Idn.signed true (L u))).2 == 0)) := by
        show _ = _
        have : Idn.digit u[0] = true := by rw [Idn.digit_iff]; omega
        rw [HR.out, ← HE.out, hhd, this, hdg]; simp
      clear hdg hhd
      by_cases hz0 : L u = [48]
      ·have hz : (u.toList == ([48] : List UInt8)) = true := by rw [toList_L, hz0]; rfl
       have hQ := fun W => r_ReadInt_any (u) W (by omega)
       have HF : Hid (r = ((Idn.read2 (L (u))).1, (Idn.read2 (L (u))).2 == 0)) := by
        show _ = _
        rw [HG.out]
        rw [hz0]; rfl
       generalize Idn.read2 (L (u)) = q at *
       obtain ⟨n, e⟩ := q
       dsimp only at hQ HF
       clear HR HE HG
       go_wp2_with (go_at_call 305; refine (hQ _).mono ?_; rintro e w1 ⟨rfl, rfl⟩)
       go_ret2
       exact ⟨by rw [HF.out] <;> rfl, rfl⟩
      ·have hz : (u.toList == ([48] : List UInt8)) = false := by rw [toList_L]; simpa using hz0
       have hL45 : L ((⟨#[45]⟩ : ByteArray) ++ u) = 45 :: L u := by
        have : (⟨#[45]⟩ : ByteArray) ++ u = B (45 :: L u) := by rw [show (45 :: L u) = [45] ++ L u from rfl, ← B_app]; rfl
        rw [this, Idn.L_B]
       have hsz45 : ((⟨#[45]⟩ : ByteArray) ++ u).size = 1 + u.size := by
        rw [size_L, hL45, size_L u]; simp; omega
       have hQ := fun W => r_ReadInt_any ((⟨#[45]⟩ : ByteArray) ++ u) W (by rw [hsz45]; omega)
       have HF : Hid (r = ((Idn.read2 (L ((⟨#[45]⟩ : ByteArray) ++ u))).1, (Idn.read2 (L ((⟨#[45]⟩ : ByteArray) ++ u))).2 == 0)) := by
        show _ = _
        rw [HG.out]
        rw [hL45, Idn.signed, if_pos (by simpa using hz0)]
       generalize Idn.read2 (L ((⟨#[45]⟩ : ByteArray) ++ u)) = q at *
       obtain ⟨n, e⟩ := q
       dsimp only at hQ HF
       clear HR HE HG
       go_wp2_with (go_at_call 305; refine (hQ _).mono ?_; rintro e w1 ⟨rfl, rfl⟩)
       go_ret2
       exact ⟨by rw [HF.out] <;> rfl, rfl⟩
 all_goals
  go_enter Tryz.func262, Tryz.ntmps262
  go_wp2
  try generalize s = t at hs HR ⊢
  go_loop [0] (fun x => ∃ u : ByteArray, x = .string u ∧ u.size ≤ t.size ∧ Hid (Idn.stripZ (L u) = Idn.stripZ (L t))) (fun x => vSize x)
  case atStart => exact ⟨t, rfl, Nat.le_refl _, rfl⟩
  case round =>
   obtain ⟨u, rfl, hut, hinv⟩ := hrel
   by_cases h1 : 1 < u.size
   ·try (exfalso; omega)
    all_goals
     have h1I : (1 : Int) < (u.size : Int) := by omega
     have h2 := drop_two u 0 h1
     simp only [List.drop_zero] at h2
     by_cases h48 : u[0] = 48
     ·have e48 : ((u[0].toNat : Int) == 48) = true := byte_is (d := 48) h48
      have HI : Hid (Idn.stripZ (L (u.extract 1 u.size)) = Idn.stripZ (L t)) := by
       show _ = _
       rw [← hinv.out, extract_drop, Idn.L_B, h2, Idn.stripZ, if_pos (by simpa using h48)]
       try simp
      clear h2 h48 hinv HR
      go_wp2
      go_round
      case rel => exact ⟨u.extract 1 u.size, rfl, by simp; omega, HI⟩
      case measure => simp [vSize]; omega
     ·have e48 : ((u[0].toNat : Int) == 48) = false := byte_not (d := 48) h48
      have HE : Hid (L u = Idn.stripZ (L t)) := by show _ = _; rw [← hinv.out, h2, Idn.stripZ, if_neg (by simpa using h48)]
      clear h2 h48 hinv
      by_cases hu0 : 0 < u.size
      case neg =>
       first
       | (exfalso; omega)
       | (have hemp : (u.toList == ([] : List UInt8)) = true := by rw [toList_L, drop0 u hu0]; rfl
          have HF : Hid (r = (0, false)) := by show _ = _; rw [HR.out, ← HE.out, drop0 u hu0]; rfl
          clear HR HE
          go_wp2
          go_ret2
          exact ⟨by rw [HF.out] <;> rfl, rfl⟩)
      case pos =>
      have hne : L u = u[0] :: (L u).drop 1 := by have := drop_L u 0 hu0; simpa using this
      have hemp : (u.toList == ([] : List UInt8)) = false := by rw [toList_L, hne]; rfl
      have hdg : (L u).isEmpty = false := by rw [hne]; rfl
      have hhd : (L u).headD 0 = u[0] := by rw [hne]; rfl
      clear hne
      by_cases d1 : (u[0].toNat : Int) < 48
      ·have HF : Hid (r = (0, false)) := by
         show _ = _
         have : Idn.digit u[0] = false := by unfold Idn.digit; rw [Bool.and_eq_false_iff, decide_eq_false_iff_not]; left; omega
         rw [HR.out, ← HE.out, hhd, this]; simp
       clear HR HE
       go_wp2
       go_ret2
       exact ⟨by rw [HF.out] <;> rfl, rfl⟩
      ·by_cases d2 : (57 : Int) < (u[0].toNat : Int)
       ·have HF : Hid (r = (0, false)) := by
          show _ = _
          have : Idn.digit u[0] = false := by unfold Idn.digit; rw [Bool.and_eq_false_iff, decide_eq_false_iff_not, decide_eq_false_iff_not]; right; omega
          rw [HR.out, ← HE.out, hhd, this]; simp
        clear HR HE
        go_wp2
        go_ret2
        exact ⟨by rw [HF.out] <;> rfl, rfl⟩
       ·have HG : Hid (r = ((Idn.read2 (Idn.signed false (L u))).1, (Idn.read2 (Idn.signed false (L u))).2 == 0)) := by
          show _ = _
          have : Idn.digit u[0] = true := by rw [Idn.digit_iff]; omega
          rw [HR.out, ← HE.out, hhd, this, hdg]; simp
        clear hdg hhd
        have hQ := fun W => r_ReadInt_any (u) W (by omega)
        have HF : Hid (r = ((Idn.read2 (L (u))).1, (Idn.read2 (L (u))).2 == 0)) := by
         show _ = _
         rw [HG.out]
         rw [Idn.signed]; rfl
        generalize Idn.read2 (L (u)) = q at *
        obtain ⟨n, e⟩ := q
        dsimp only at hQ HF
        clear HR HE HG
        go_wp2_with (go_at_call 305; refine (hQ _).mono ?_; rintro e w1 ⟨rfl, rfl⟩)
        go_ret2
        exact ⟨by rw [HF.out] <;> rfl, rfl⟩
   ·have h1I : ¬ (1 : Int) < (u.size : Int) := by omega
    have HE : Hid (L u = Idn.stripZ (L t)) := by
     show _ = _
     rw [← hinv.out]
     have : (L u).length ≤ 1 := by rw [← size_L]; omega
     cases hx : L u with
     | nil => rfl
     | cons a l =>
      cases l with
      | nil => rfl
      | cons b l => rw [hx] at this; simp at this
    clear hinv
    by_cases hu0 : 0 < u.size
    case neg =>
     first
     | (exfalso; omega)
     | (have hemp : (u.toList == ([] : List UInt8)) = true := by rw [toList_L, drop0 u hu0]; rfl
        have HF : Hid (r = (0, false)) := by show _ = _; rw [HR.out, ← HE.out, drop0 u hu0]; rfl
        clear HR HE
        go_wp2
        go_ret2
        exact ⟨by rw [HF.out] <;> rfl, rfl⟩)
    case pos =>
    have hne : L u = u[0] :: (L u).drop 1 := by have := drop_L u 0 hu0; simpa using this
    have hemp : (u.toList == ([] : List UInt8)) = false := by rw [toList_L, hne]; rfl
    have hdg : (L u).isEmpty = false := by rw [hne]; rfl
    have hhd : (L u).headD 0 = u[0] := by rw [hne]; rfl
    clear hne
    by_cases d1 : (u[0].toNat : Int) < 48
    ·have HF : Hid (r = (0, false)) := by
       show _ = _
       have : Idn.digit u[0] = false := by unfold Idn.digit; rw [Bool.and_eq_false_iff, decide_eq_false_iff_not]; left; omega
       rw [HR.out, ← HE.out, hhd, this]; simp
     clear HR HE
     go_wp2
     go_ret2
     exact ⟨by rw [HF.out] <;> rfl, rfl⟩
    ·by_cases d2 : (57 : Int) < (u[0].toNat : Int)
     ·have HF : Hid (r = (0, false)) := by
        show _ = _
        have : Idn.digit u[0] = false := by unfold Idn.digit; rw [Bool.and_eq_false_iff, decide_eq_false_iff_not, decide_eq_false_iff_not]; right; omega
        rw [HR.out, ← HE.out, hhd, this]; simp
      clear HR HE
      go_wp2
      go_ret2
      exact ⟨by rw [HF.out] <;> rfl, rfl⟩
     ·have HG : Hid (r = ((Idn.read2 (Idn.signed false (L u))).1, (Idn.read2 (Idn.signed false (L u))).2 == 0)) := by
        show _ = _
        have : Idn.digit u[0] = true := by rw [Idn.digit_iff]; omega
        rw [HR.out, ← HE.out, hhd, this, hdg]; simp
      clear hdg hhd
      have hQ := fun W => r_ReadInt_any (u) W (by omega)
      have HF : Hid (r = ((Idn.read2 (L (u))).1, (Idn.read2 (L (u))).2 == 0)) := by
       show _ = _
       rw [HG.out]
       rw [Idn.signed]; rfl
      generalize Idn.read2 (L (u)) = q at *
      obtain ⟨n, e⟩ := q
      dsimp only at hQ HF
      clear HR HE HG
      go_wp2_with (go_at_call 305; refine (hQ _).mono ?_; rintro e w1 ⟨rfl, rfl⟩)
      go_ret2
      exact ⟨by rw [HF.out] <;> rfl, rfl⟩
end Go.Proofs.YtbkkchhimhlhcaaGreatDoor
/- identityref07: form. -/
namespace Go.Proofs.YtbkkchhimhlhcaaGreatDoor
open Go.RowKit Go.Sort
open Idn (L B Bs drop_L take_L size_L)
theorem read2_range (l : Bs) : -9223372036854775808 ≤ (Idn.read2 l).1 ∧ (Idn.read2 l).1 ≤ 9223372036854775807 := by
 unfold Idn.read2
 repeat' split
 all_goals (try dsimp only)
 all_goals omega
theorem number2_range (l : Bs) : -9223372036854775808 ≤ (Idn.number2 l).1 ∧ (Idn.number2 l).1 ≤ 9223372036854775807 := by
 unfold Idn.number2
 split
 ·exact ⟨by decide, by decide⟩
 ·exact read2_range _
theorem r7_form_any (x : Int) (h1 : 1 ≤ x) (h5 : x ≤ 5) (v : ByteArray) (w : World) (hs : v.size ≤ 999999999) :
  Calls Tryz.prog 202 #[.int .i64 x, .string v] w fun e w' => e = .returned (.tuple #[.string (B (form2 x (L v)).1), .bool (form2 x (L v)).2]) ∧ Below w.heap.size w w' := by
 have hFo := fun W => r_fold_any v W (by omega)
 have hNu := fun W => r7_number_any v W hs
 have hCl := fun W => r5_Clean_any v W (by omega)
 have hLo := fun W => r_lower_any v W (by omega)
 obtain ⟨n1, n2⟩ := number2_range (L v)
 generalize hr : form2 x (L v) = r
 have HR : Hid (r = form2 x (L v)) := hr.symm
 clear hr
 unfold form2 at HR
 have hx : x = 1 ∨ x = 2 ∨ x = 3 ∨ x = 4 ∨ x = 5 := by omega
 clear h1 h5
 rcases hx with rfl | rfl | rfl | rfl | rfl
 ·have HF : Hid (r = (Idn.fold (L v), true)) := HR.out
  clear HR hNu hCl hLo
  go_enter Tryz.func202, Tryz.ntmps202
  go_wp2_with fail
  refine (hFo _).mono ?_
  rintro e w1 ⟨rfl, hb1⟩
  go_wp2
  go_ret2
  exact ⟨by rw [HF.out] <;> rfl, hb1⟩
 ·have HF : Hid (r = (L v, true)) := HR.out
  clear HR hNu hCl hLo hFo
  go_enter Tryz.func202, Tryz.ntmps202
  go_wp2
  go_ret2
  exact ⟨by rw [HF.out] <;> rfl, Below.refl _ _⟩
 ·have HF : Hid (r = (Lib.itoa (Idn.number2 (L v)).1, (Idn.number2 (L v)).2)) := HR.out
  have hI := fun W => r_Int_any (Idn.number2 (L v)).1 n1 n2 W
  generalize Idn.number2 (L v) = q at *
  obtain ⟨n, ok⟩ := q
  dsimp only at *
  clear HR hCl hLo hFo
  go_enter Tryz.func202, Tryz.ntmps202
  go_wp2_with fail
  refine (hNu _).mono ?_
  rintro e w1 ⟨rfl, rfl⟩
  go_wp2_with fail
  refine (hI _).mono ?_
  rintro e w1 ⟨rfl, hb1⟩
  go_wp2
  go_ret2
  exact ⟨by rw [HF.out] <;> rfl, hb1⟩
 ·have HF : Hid (r = ((Idn.cleanN (L v)).1, (Idn.cleanN (L v)).2 == 0)) := HR.out
  generalize Idn.cleanN (L v) = q at *
  obtain ⟨t, x⟩ := q
  dsimp only at *
  clear HR hNu hLo hFo
  go_enter Tryz.func202, Tryz.ntmps202
  go_wp2_with fail
  refine (hCl _).mono ?_
  rintro e w1 ⟨rfl, hb1⟩
  go_wp2
  go_ret2
  exact ⟨by rw [HF.out] <;> rfl, hb1⟩
 ·have HF : Hid (r = if Idn.lower (L v) = tTrue then ([84, 82, 85, 69], true) else ([70, 65, 76, 83, 69], Idn.lower (L v) == tFalse)) := HR.out
  have hway : (((B (Idn.lower (L v))).toList == ([116, 114, 117, 101] : List UInt8)) = true ∧ Hid (r = ([84, 82, 85, 69], true))) ∨ (((B (Idn.lower (L v))).toList == ([116, 114, 117, 101] : List UInt8)) = false ∧ ∃ b : Bool, ((B (Idn.lower (L v))).toList == ([102, 97, 108, 115, 101] : List UInt8)) = b ∧ Hid (r = ([70, 65, 76, 83, 69], b))) := by
   by_cases h : Idn.lower (L v) = tTrue
   ·exact .inl ⟨by rw [toList_L, Idn.L_B, h]; rfl, by show _ = _; rw [HF.out, if_pos h]⟩
   ·exact .inr ⟨by rw [toList_L, Idn.L_B, beq_eq_false_iff_ne]; exact h, Idn.lower (L v) == tFalse, by rw [toList_L, Idn.L_B]; rfl, by show _ = _; rw [HF.out, if_neg h]⟩
  clear HF HR hNu hCl hFo
  generalize B (Idn.lower (L v)) = t at *
  rcases hway with ⟨z1, HG⟩ | ⟨z1, b, z2, HG⟩
  ·go_enter Tryz.func202, Tryz.ntmps202
   go_wp2_with fail
   refine (hLo _).mono ?_
   rintro e w1 ⟨rfl, hb1⟩
   go_wp2
   go_ret2
   exact ⟨by rw [HG.out] <;> rfl, hb1⟩
  ·go_enter Tryz.func202, Tryz.ntmps202
   go_wp2_with fail
   refine (hLo _).mono ?_
   rintro e w1 ⟨rfl, hb1⟩
   go_wp2_with fail
   refine (hLo _).mono ?_
   rintro e w2 ⟨rfl, hb2⟩
   go_wp2
   go_ret2
   exact ⟨by rw [HG.out] <;> rfl, hb1.trans (hb2.mono hb1.size)⟩
end Go.Proofs.YtbkkchhimhlhcaaGreatDoor
/- identityref07: Normal, Compare. -/
namespace Go.Proofs.YtbkkchhimhlhcaaGreatDoor
open Go.RowKit Go.Sort
open Idn (L B Bs drop_L take_L size_L)
theorem r_Normal_any (u : Value) (s : Idn.Sch) (n v : ByteArray) (w : World) (hu : SchV w w.heap.size u s) (hs : SSm s) (hn : n.size ≤ 1000000000) (hv : v.size ≤ 100000000) :
  Calls Tryz.prog 148 #[u, .string n, .string v] w fun e w' => e = .returned (.tuple #[.string (B (sNorm s (L n) (L v)).1), .int .i64 (sNorm s (L n) (L v)).2]) ∧ Below w.heap.size w w' := by
 have hT := fun W (hW : Below w.heap.size w W) => r_type_any u s n W (SchV.mono (SchV.keep hu hW) hW.size) hs hn
 have hC1 := fun W => r_clean_any v W (by omega)
 obtain ⟨a, b, rfl, hT0, hC0⟩ := hu
 obtain ⟨A, ca, rfl, hca⟩ := SlV.shape hT0
 obtain ⟨A', cb, rfl, hcb⟩ := SlV.shape hC0
 clear hT0 hC0
 have hsy := fun h => syn_range (s := s) (n := L n) h
 rw [← rNorm_eq]
 generalize hr : rNorm s (L n) (L v) = r
 have HR : Hid (r = rNorm s (L n) (L v)) := hr.symm
 clear hr
 unfold rNorm at HR
 generalize tyLook (sound s) (L n) = tl at *
 obtain ⟨⟨tn, ty, ts⟩, ok⟩ := tl
 unfold tyV at hT
 dsimp only [sv] at *
 cases ok
 ·have HF : Hid (r = ([], 6)) := by show _ = _; rw [HR.out, if_pos rfl]
  clear HR hsy hC1
  go_enter Tryz.func148, Tryz.ntmps148
  go_wp2_with fail
  with_reducible refine gen1 (R := fun W => Calls Tryz.prog 54 _ W _) ?_
  intro W hbW hszW _ _
  refine (hT W hbW).mono ?_
  rintro e w1 ⟨rfl, hb1⟩
  have hbw1 := hbW.trans (hb1.mono hbW.size)
  clear hT
  go_wp2
  go_ret2
  exact ⟨by rw [HF.out] <;> rfl, hbw1.alloc hbw1.size _⟩
 ·obtain ⟨y1, y5⟩ := hsy rfl
  have hFm := fun W => r7_form_any ty y1 y5 v W (by omega)
  have hF2 := form2_eq y1 y5 (L v)
  have hlen := length_norm ty (L v) (by rw [← size_L]; omega)
  have hfl : (form2 ty (L v)).2 = true → (form2 ty (L v)).1.length ≤ 1000000000 := fun h => by rw [hF2.2 (by rw [← hF2.1]; exact h)]; exact hlen
  clear hF2 hlen hsy
  generalize form2 ty (L v) = f at *
  obtain ⟨f1, f2⟩ := f
  dsimp only at *
  cases hcl : Idn.clean (L v)
  ·rw [hcl] at hC1 HR
   have HF : Hid (r = ([], 8)) := by show _ = _; rw [HR.out, if_neg (by decide), if_pos rfl]
   clear HR hfl hFm hcl
   go_enter Tryz.func148, Tryz.ntmps148
   go_wp2_with fail
   with_reducible refine gen1 (R := fun W => Calls Tryz.prog 54 _ W _) ?_
   intro W hbW hszW _ _
   refine (hT W hbW).mono ?_
   rintro e w1 ⟨rfl, hb1⟩
   have hbw1 := hbW.trans (hb1.mono hbW.size)
   clear hT hszW
   go_upto_region 2 with fail
   with_reducible refine gen1 (R := fun W => Code.wp Tryz.prog _ _ _ W) ?_
   intro W4 hbW4 hszW4 hc4 _
   have p1 : W4.cell? ⟨w1.heap.size, 1, none⟩ = some (.int .i64 ty) := hc4 1 _ rfl
   have hbw4 := hbw1.trans (hbW4.mono hbw1.size)
   clear hc4 hszW4
   go_wp2_with fail
   refine (hC1 W4).mono ?_
   rintro e w5 ⟨rfl, rfl⟩
   clear hC1
   go_wp2
   go_ret2
   exact ⟨by rw [HF.out] <;> rfl, hbw4⟩
  ·rw [hcl] at hC1 HR
   clear hcl
   cases f2
   ·have HF : Hid (r = ([], 8)) := by show _ = _; rw [HR.out, if_neg (by decide), if_neg (by decide), if_pos (by simp)]
    clear HR hfl
    go_enter Tryz.func148, Tryz.ntmps148
    go_wp2_with fail
    with_reducible refine gen1 (R := fun W => Calls Tryz.prog 54 _ W _) ?_
    intro W hbW hszW _ _
    refine (hT W hbW).mono ?_
    rintro e w1 ⟨rfl, hb1⟩
    have hbw1 := hbW.trans (hb1.mono hbW.size)
    clear hT hszW
    go_upto_region 2 with fail
    with_reducible refine gen1 (R := fun W => Code.wp Tryz.prog _ _ _ W) ?_
    intro W4 hbW4 hszW4 hc4 _
    have p1 : W4.cell? ⟨w1.heap.size, 1, none⟩ = some (.int .i64 ty) := hc4 1 _ rfl
    have hbw4 := hbw1.trans (hbW4.mono hbw1.size)
    clear hc4 hszW4
    go_wp2_with fail
    refine (hC1 W4).mono ?_
    rintro e w5 ⟨rfl, rfl⟩
    clear hC1
    go_wp2_with fail
    refine (hFm W4).mono ?_
    rintro e w6 ⟨rfl, hb6⟩
    have hbw6 := hbw4.trans (hb6.mono hbw4.size)
    clear hFm
    go_wp2
    go_ret2
    exact ⟨by rw [HF.out] <;> rfl, hbw6⟩
   ·have hC2 := fun W => r_clean_any (B f1) W (by have := hfl rfl; rw [Idn.size_B]; omega)
    rw [Idn.L_B] at hC2
    have HF : Hid (r = if Idn.clean f1 = false then ([], 8) else (f1, 0)) := by
     show _ = _
     rw [HR.out, if_neg (by decide), if_neg (by decide)]
     cases Idn.clean f1 <;> rfl
    clear HR hfl
    cases hcf : Idn.clean f1
    all_goals
     rw [hcf] at hC2 HF
     clear hcf
     go_enter Tryz.func148, Tryz.ntmps148
     go_wp2_with fail
     with_reducible refine gen1 (R := fun W => Calls Tryz.prog 54 _ W _) ?_
     intro W hbW hszW _ _
     refine (hT W hbW).mono ?_
     rintro e w1 ⟨rfl, hb1⟩
     have hbw1 := hbW.trans (hb1.mono hbW.size)
     clear hT hszW
     go_upto_region 2 with fail
     with_reducible refine gen1 (R := fun W => Code.wp Tryz.prog _ _ _ W) ?_
     intro W4 hbW4 hszW4 hc4 _
     have p1 : W4.cell? ⟨w1.heap.size, 1, none⟩ = some (.int .i64 ty) := hc4 1 _ rfl
     have hbw4 := hbw1.trans (hbW4.mono hbw1.size)
     clear hc4 hszW4
     go_wp2_with fail
     refine (hC1 W4).mono ?_
     rintro e w5 ⟨rfl, rfl⟩
     clear hC1
     go_wp2_with fail
     refine (hFm W4).mono ?_
     rintro e w6 ⟨rfl, hb6⟩
     have hbw6 := hbw4.trans (hb6.mono hbw4.size)
     clear hFm
     go_wp2_with fail
     refine (hC2 _).mono ?_
     rintro e w7 ⟨rfl, rfl⟩
     go_wp2
     go_ret2
     exact ⟨by rw [HF.out] <;> rfl, hbw6⟩
theorem sNorm_len (s : Idn.Sch) (n v : Bs) (h : v.length ≤ 100000000) : (sNorm s n v).1.length ≤ 1000000000 := kNorm_len (sound s) n v h
theorem sNorm_int {s : Idn.Sch} {n v : Bs} (h : (sNorm s n v).2 = 0) (hx : (tyLook (sound s) n).1.syn = 3) : (sNorm s n v).1.length ≤ 21 := by
 obtain ⟨_, h2, _⟩ := sNorm_ok (Prod.ext rfl h : sNorm s n v = ((sNorm s n v).1, 0))
 rw [hx] at h2
 obtain ⟨h3, _⟩ := normV_parts h2
 have h4 : Idn.integer v = ((sNorm s n v).1, true) := h3
 obtain ⟨k, k1, k2, k3⟩ := integer_form (v := v) (by rw [h4])
 rw [h4] at k3
 dsimp only at k3
 rw [k3]
 exact Lib.itoa_length_le _ k1 k2
theorem r_Compare_any (u : Value) (s : Idn.Sch) (n v1 v2 : ByteArray) (w : World) (hu : SchV w w.heap.size u s) (hs : SSm s) (hn : n.size ≤ 1000000000) (hv1 : v1.size ≤ 100000000) (hv2 : v2.size ≤ 100000000) :
  Calls Tryz.prog 203 #[u, .string n, .string v1, .string v2] w fun e w' => e = .returned (.tuple #[.int .i64 (sComp s (L n) (L v1) (L v2)).1, .int .i64 (sComp s (L n) (L v1) (L v2)).2]) ∧ Below w.heap.size w w' := by
 have hV := fun W (hW : Below w.heap.size w W) => SchV.mono (SchV.keep hu hW) hW.size
 have k1 := fun W (hW : Below w.heap.size w W) => r_Normal_any u s n v1 W (hV W hW) hs hn hv1
 have k2 := fun W (hW : Below w.heap.size w W) => r_Normal_any u s n v2 W (hV W hW) hs hn hv2
 have kT := fun W (hW : Below w.heap.size w W) => r_type_any u s n W (hV W hW) hs hn
 obtain ⟨a, b, rfl, hT0, hC0⟩ := hu
 obtain ⟨A, ca, rfl, hca⟩ := SlV.shape hT0
 obtain ⟨A', cb, rfl, hcb⟩ := SlV.shape hC0
 clear hT0 hC0 hV
 have hl1 := sNorm_len s (L n) (L v1) (by have := size_L v1; omega)
 have hl2 := sNorm_len s (L n) (L v2) (by have := size_L v2; omega)
 have hi1 := fun h1 h2 => sNorm_int (s := s) (n := L n) (v := L v1) h1 h2
 have hi2 := fun h1 h2 => sNorm_int (s := s) (n := L n) (v := L v2) h1 h2
 rw [← rComp_eq]
 generalize hr : rComp s (L n) (L v1) (L v2) = r
 have HR : Hid (r = rComp s (L n) (L v1) (L v2)) := hr.symm
 clear hr
 unfold rComp at HR
 generalize sNorm s (L n) (L v1) = na at *
 generalize sNorm s (L n) (L v2) = nb at *
 generalize tyLook (sound s) (L n) = tl at *
 obtain ⟨a, ea⟩ := na
 obtain ⟨b, eb⟩ := nb
 obtain ⟨⟨tn, ty, ts⟩, ok⟩ := tl
 unfold tyV at kT
 dsimp only [sv] at *
 by_cases hea : ea = 0
 case neg =>
  have HF : Hid (r = (0, ea)) := by show _ = _; rw [HR.out, if_pos hea]
  have e1 : (ea == 0) = false := by simpa using hea
  have e2 : (ea != 0) = true := by simpa using hea
  clear HR hea hi1 hi2 k2 kT
  go_enter Tryz.func203, Tryz.ntmps203
  go_wp2_with fail
  with_reducible refine gen1 (R := fun W => Calls Tryz.prog 148 _ W _) ?_
  intro W hbW hszW _ _
  refine (k1 W hbW).mono ?_
  rintro e w1 ⟨rfl, hb1⟩
  have hbw1 := hbW.trans (hb1.mono hbW.size)
  clear k1
  go_wp2
  go_ret2
  exact ⟨by rw [HF.out] <;> rfl, hbw1⟩
 subst hea
 by_cases heb : eb = 0
 case neg =>
  have HF : Hid (r = (0, eb)) := by show _ = _; rw [HR.out, if_neg (by decide), if_pos heb]
  have e1 : (eb == 0) = false := by simpa using heb
  have e2 : (eb != 0) = true := by simpa using heb
  clear HR heb hi1 hi2 kT
  go_enter Tryz.func203, Tryz.ntmps203
  go_wp2_with fail
  with_reducible refine gen1 (R := fun W => Calls Tryz.prog 148 _ W _) ?_
  intro W hbW hszW hc0 _
  have q0 := hc0 0 _ rfl
  have q1 := hc0 1 _ rfl
  refine (k1 W hbW).mono ?_
  rintro e w1 ⟨rfl, hb1⟩
  replace q0 := cell_later hb1 q0
  replace q1 := cell_later hb1 q1
  have hbw1 := hbW.trans (hb1.mono hbW.size)
  clear k1 hc0
  go_wp2_with fail
  refine (k2 w1 hbw1).mono ?_
  rintro e w2 ⟨rfl, hb2⟩
  have hbw2 := hbw1.trans (hb2.mono hbw1.size)
  clear k2
  go_wp2
  go_ret2
  exact ⟨by rw [HF.out] <;> rfl, hbw2⟩
 subst heb
 have HF0 : Hid (r = if ty = 4 then (cmpNm a b, 0) else if ty = 3 then (Lib.compareInt (Idn.number2 a).1 (Idn.number2 b).1, 0) else (cmpB a b, 0)) := by show _ = _; rw [HR.out, if_neg (by decide), if_neg (by decide)]
 have kC := fun W => r5_Compare_any (B a) (B b) W (by rw [Idn.size_B]; omega) (by rw [Idn.size_B]; omega)
 have kO := fun W => r_Order_any (B a) (B b) W
 rw [Idn.L_B, Idn.L_B] at kC kO
 clear HR
 go_enter Tryz.func203, Tryz.ntmps203
 go_wp2_with fail
 with_reducible refine gen1 (R := fun W => Calls Tryz.prog 148 _ W _) ?_
 intro W hbW hszW hc0 _
 have q0 := hc0 0 _ rfl
 have q1 := hc0 1 _ rfl
 refine (k1 W hbW).mono ?_
 rintro e w1 ⟨rfl, hb1⟩
 replace q0 := cell_later hb1 q0
 replace q1 := cell_later hb1 q1
 have hbw1 := hbW.trans (hb1.mono hbW.size)
 clear k1 hc0
 go_wp2_with fail
 refine (k2 w1 hbw1).mono ?_
 rintro e w2 ⟨rfl, hb2⟩
 replace q0 := cell_later hb2 q0
 replace q1 := cell_later hb2 q1
 have hbw2 := hbw1.trans (hb2.mono hbw1.size)
 clear k2
 go_wp2_with fail
 refine (kT w2 hbw2).mono ?_
 rintro e w3 ⟨rfl, hb3⟩
 have hbw3 := hbw2.trans (hb3.mono hbw2.size)
 clear kT q0 q1 hb1 hb2 hb3
 go_upto_region 8 with fail
 with_reducible refine gen1 (R := fun W => Code.wp Tryz.prog _ _ _ W) ?_
 intro W4 hbW4 hszW4 hc4 _
 have p1 : W4.cell? ⟨w3.heap.size, 1, none⟩ = some (.int .i64 ty) := hc4 1 _ rfl
 have hbw4 := hbw3.trans (hbW4.mono hbw3.size)
 clear hc4 hszW4 hbW4
 by_cases h4 : ty = 4
 ·have HF : Hid (r = (cmpNm a b, 0)) := by show _ = _; rw [HF0.out, if_pos h4]
  have e4 : (ty == 4) = true := by simpa using h4
  generalize cmpNm a b = cn at *
  clear HF0 h4 hi1 hi2 kO
  go_wp2_with fail
  refine (kC W4).mono ?_
  rintro e w5 ⟨rfl, hb5⟩
  go_wp2
  go_ret2
  exact ⟨by rw [HF.out] <;> rfl, hbw4.trans (hb5.mono hbw4.size)⟩
 have e4 : (ty == 4) = false := by simpa using h4
 by_cases h3 : ty = 3
 ·have HF : Hid (r = (Lib.compareInt (Idn.number2 a).1 (Idn.number2 b).1, 0)) := by show _ = _; rw [HF0.out, if_neg h4, if_pos h3]
  have e3 : (ty == 3) = true := by simpa using h3
  have h21 := hi1 (by first | rfl | trivial) h3
  have h22 := hi2 (by first | rfl | trivial) h3
  have kN1 := fun W => r7_number_any (B a) W (by rw [Idn.size_B]; omega)
  have kN2 := fun W => r7_number_any (B b) W (by rw [Idn.size_B]; omega)
  rw [Idn.L_B] at kN1 kN2
  generalize Idn.number2 a = x1 at *
  generalize Idn.number2 b = x2 at *
  obtain ⟨x1, y1⟩ := x1
  obtain ⟨x2, y2⟩ := x2
  dsimp only at kN1 kN2 HF
  clear HF0 h4 h3 hi1 hi2 kO kC
  rcases Int.lt_trichotomy x1 x2 with hc | hc | hc
  ·have HG : Hid (r = (-1, 0)) := by show _ = _; rw [HF.out, Lib.compareInt, if_pos hc]
   clear HF
   go_wp2_with fail
   refine (kN1 W4).mono ?_
   rintro e w5 ⟨rfl, rfl⟩
   go_wp2_with fail
   refine (kN2 W4).mono ?_
   rintro e w6 ⟨rfl, rfl⟩
   go_wp2
   go_ret2
   exact ⟨by rw [HG.out] <;> rfl, hbw4⟩
  ·have n1 : ¬ x1 < x2 := by omega
   have n2 : ¬ x2 < x1 := by omega
   have HG : Hid (r = (0, 0)) := by show _ = _; rw [HF.out, Lib.compareInt, if_neg n1, if_neg n2]
   clear HF hc
   go_wp2_with fail
   refine (kN1 W4).mono ?_
   rintro e w5 ⟨rfl, rfl⟩
   go_wp2_with fail
   refine (kN2 W4).mono ?_
   rintro e w6 ⟨rfl, rfl⟩
   go_wp2
   go_ret2
   exact ⟨by rw [HG.out] <;> rfl, hbw4⟩
  ·have n1 : ¬ x1 < x2 := by omega
   have HG : Hid (r = (1, 0)) := by show _ = _; rw [HF.out, Lib.compareInt, if_neg n1, if_pos hc]
   clear HF
   go_wp2_with fail
   refine (kN1 W4).mono ?_
   rintro e w5 ⟨rfl, rfl⟩
   go_wp2_with fail
   refine (kN2 W4).mono ?_
   rintro e w6 ⟨rfl, rfl⟩
   go_wp2
   go_ret2
   exact ⟨by rw [HG.out] <;> rfl, hbw4⟩
 ·have HF : Hid (r = (cmpB a b, 0)) := by show _ = _; rw [HF0.out, if_neg h4, if_neg h3]
  have e3 : (ty == 3) = false := by simpa using h3
  generalize cmpB a b = cn at *
  clear HF0 h4 h3 hi1 hi2 kC
  go_wp2_with fail
  refine (kO W4).mono ?_
  rintro e w5 ⟨rfl, rfl⟩
  go_wp2
  go_ret2
  exact ⟨by rw [HF.out] <;> rfl, hbw4⟩
end Go.Proofs.YtbkkchhimhlhcaaGreatDoor
