/- Part 37 of the proof that identitylaw08.EntryParses and EntryReturns return true: the package variables hold what the program lays; nothing else is asked. -/
import Derived.Test.YtoopoglkeeoamaaGreatDoorEz04
import Derived.Test.YtoopoglkeeoamaaGreatDoorEz09
import Derived.Test.YtoopoglkeeoamaaGreatDoorEz10
import Derived.Test.YtoopoglkeeoamaaGreatDoorEz18
import Derived.Test.YtoopoglkeeoamaaGreatDoorEz20
import Derived.Test.YtoopoglkeeoamaaGreatDoorEz24
import Derived.Test.YtoopoglkeeoamaaGreatDoorEz27
import Derived.Test.YtoopoglkeeoamaaGreatDoorEz29
import Derived.Test.YtoopoglkeeoamaaGreatDoorEz30
import Derived.Test.YtoopoglkeeoamaaGreatDoorEz35
import Derived.Test.YtoopoglkeeoamaaGreatDoorEz36
import Derived.KernelRfl
set_option linter.unusedVariables false
set_option linter.unusedSimpArgs false
/- Plain law of SchemaInherits. -/
namespace Go.Proofs.YtoopoglkeeoamaaGreatDoor
open Go.RowKit Go.Sort
open Idn (L B Bs)
theorem vals_clean : ∀ (l p : List Bs), Idn.valsErr p l = 0 → ∀ x ∈ l, Idn.clean x = true
  | [], _, _, x, hx => by simp at hx
  | v :: l, p, h, x, hx => by
    unfold Idn.valsErr at h
    split at h
    · cases h
    · rename_i h1
      split at h
      · cases h
      · rcases List.mem_cons.1 hx with rfl | hx
        · simpa using h1
        · exact vals_clean l _ h x hx
theorem atts_clean : ∀ (l p : List Idn.Att), Idn.attsErr p l = 0 → ∀ a ∈ l, ∀ x ∈ a.vals, Idn.clean x = true
  | [], _, _, a, ha => by simp at ha
  | b :: l, p, h, a, ha => by
    unfold Idn.attsErr at h
    split at h
    · rename_i hn; simp [h] at hn
    · rename_i hn
      have h0 : Idn.attErr p b = 0 := by simpa using hn
      rcases List.mem_cons.1 ha with rfl | ha
      · unfold Idn.attErr at h0
        split at h0
        · cases h0
        · split at h0
          · cases h0
          · split at h0
            · cases h0
            · split at h0
              · cases h0
              · exact vals_clean _ _ h0
      · exact atts_clean l _ h a ha
theorem aCheck_clean {l : List Idn.Att} (h : Idn.aCheck l = 0) : ∀ a ∈ l, ∀ x ∈ a.vals, Idn.clean x = true := by
  unfold Idn.aCheck at h
  split at h
  · cases h
  · exact atts_clean l [] h
end Go.Proofs.YtoopoglkeeoamaaGreatDoor
/- identityref06: Names, Get. -/
namespace Go.Proofs.YtoopoglkeeoamaaGreatDoor
open Go.RowKit Go.Sort
open Idn (L B Bs drop_L take_L size_L)
def rGet (l : List Idn.Att) (n : Bs) : List Bs := match (Idn.rSorted l).findIdx? (fun a => decide (a.name = Idn.lower n)) with
  | none => []
  | some k => match (Idn.rSorted l)[k]? with | none => [] | some a => a.vals
theorem rGet_eq {l : List Idn.Att} (h : ∀ a ∈ l, a.vals.length ≠ 0) (n : Bs) : rGet l n = getL l n := by 
  unfold rGet getL
  have e : Idn.rSorted l = Idn.aSorted l := Idn.rSorted_eq h
  first
  | (rw [e]; done)
  | (rw [e]
     cases (Idn.aSorted l).findIdx? (fun a => decide (a.name = Idn.lower n)) with
     | none => rfl
     | some k => dsimp only; cases (Idn.aSorted l)[k]? <;> rfl)
theorem rSorted_len (l : List Idn.Att) : (Idn.rSorted l).length ≤ l.length := by
  unfold Idn.rSorted
  rw [List.length_map]
  exact Nat.le_trans (insAll_len _) (lows_len l)
end Go.Proofs.YtoopoglkeeoamaaGreatDoor
/- Plain functions: what the layer entry and the rest of the layer attrs compute. -/
namespace Go.Proofs.YtoopoglkeeoamaaGreatDoor
open Go.RowKit Go.Sort
open Idn (L B Bs)
def eCheck (n : Bs) (l : List Idn.Att) : Int := if n.isEmpty || !validN n then 5 else Idn.aCheck l
/-- the values in normal form, or the first error -/
def eValsK (s : Idn.Sch) (a : Bs) : List Bs → List Bs → List Bs × Int
  | acc, [] => (acc, 0)
  | acc, v :: l => if (sNorm s a v).2 != 0 then ([], (sNorm s a v).2) else eValsK s a (acc ++ [(sNorm s a v).1]) l
def eVals (s : Idn.Sch) (a : Bs) (l : List Bs) : List Bs × Int := eValsK s a [] l
def dupK : List Bs → List Bs → Bool
  | _, [] => false
  | p, v :: l => p.contains v || dupK (p ++ [v]) l
def eAtt (s : Idn.Sch) (a : Bs) (l : List Bs) : List Bs × Int := if (eVals s a l).2 != 0 then ([], (eVals s a l).2) else if dupK [] (eVals s a l).1 then ([], 7) else ((eVals s a l).1, 0)
def eAttsK (s : Idn.Sch) : List Idn.Att → List Idn.Att → List Idn.Att × Int
  | acc, [] => (acc, 0)
  | acc, a :: l => if (eAtt s a.name a.vals).2 != 0 then ([], (eAtt s a.name a.vals).2) else eAttsK s (acc ++ [⟨a.name, (eAtt s a.name a.vals).1⟩]) l
def leLow (a b : Idn.Att) : Bool := decide (Idn.lower a.name ≤ Idn.lower b.name)
def byLow (l : List Idn.Att) : List Idn.Att := l.mergeSort leLow
abbrev En := Bs × List Idn.Att
def eOut (s : Idn.Sch) (n : Bs) (l : List Idn.Att) : En × Int := if sValid s l != 0 then (([], []), sValid s l) else ((n, l), 0)
def eNormal (s : Idn.Sch) (n : Bs) (l : List Idn.Att) : En × Int :=
  if (Idn.cleanN n).2 != 0 || (Idn.cleanN n).1.isEmpty then (([], []), 5)
  else if Idn.aCheck l != 0 then (([], []), Idn.aCheck l)
  else if (eAttsK s [] (byLow l)).2 != 0 then (([], []), (eAttsK s [] (byLow l)).2)
  else eOut s (Idn.cleanN n).1 (Idn.aSorted (eAttsK s [] (byLow l)).1)
def aSet (l : List Idn.Att) (n : Bs) (v : List Bs) : List Idn.Att := Idn.rSorted (l.filter (fun a => !decide (a.name = Idn.lower n)) ++ [⟨Idn.lower n, v⟩])
def aLim (l : List Idn.Att) (n : Bs) : List Idn.Att × Int := if 32 < l.length ∨ 16 < (rGet l n).length then ([], 3) else (l, 0)
def aAdd (l : List Idn.Att) (n : Bs) (v : List Bs) : List Idn.Att × Int :=
  if !Idn.name n then ([], 5) else if v.length = 0 then ([], 6) else if vErr (rGet l n) [] v != 0 then ([], vErr (rGet l n) [] v)
  else aLim (aSet (Idn.rSorted l) n (rGet l n ++ v)) n
def rmK : List Bs → List Bs → Option (List Bs)
  | old, [] => some old
  | old, v :: l => if old.contains v then rmK (old.erase v) l else none
def aRemove (l : List Idn.Att) (n : Bs) (v : List Bs) : List Idn.Att × Int :=
  if !Idn.name n then ([], 5) else if (rGet l n).length = 0 then ([], 6) else if v.length = 0 then (aSet (Idn.rSorted l) n [], 0)
  else match rmK (rGet l n) v with
    | none => ([], 6)
    | some o => (aSet (Idn.rSorted l) n o, 0)
def aReplace (l : List Idn.Att) (n : Bs) (v : List Bs) : List Idn.Att × Int :=
  if !Idn.name n then ([], 5) else if Idn.valsErr [] v != 0 then ([], Idn.valsErr [] v) else if 16 < v.length then ([], 3)
  else aLim (aSet (Idn.rSorted l) n v) n
structure Md where
  op : Int
  name : Bs
  vals : List Bs
def eMod (s : Idn.Sch) (l : List Idn.Att) (m : Md) : List Idn.Att × Int :=
  if m.op < 1 ∨ 3 < m.op then ([], 2)
  else if !(tyLook (sound s) m.name).2 then ([], 6)
  else if (eAtt s m.name m.vals).2 != 0 then ([], (eAtt s m.name m.vals).2)
  else if m.op = 2 then aRemove l m.name (eAtt s m.name m.vals).1
  else if m.op = 1 then (if 0 < (eAtt s m.name m.vals).1.length then aAdd l m.name (eAtt s m.name m.vals).1 else ([], 6))
  else aReplace l m.name (eAtt s m.name m.vals).1
def eModsK (s : Idn.Sch) : List Idn.Att → List Md → List Idn.Att × Int
  | l, [] => (l, 0)
  | l, m :: r => if (eMod s l m).2 != 0 then ([], (eMod s l m).2) else eModsK s (eMod s l m).1 r
def sameV (a b : List Idn.Att) : Bool := decide (a.map (fun x => (x.name, x.vals)) = b.map (fun x => (x.name, x.vals)))
def eApply (s : Idn.Sch) (n : Bs) (l : List Idn.Att) (ms : List Md) : En × Int :=
  if (eNormal s n l).2 != 0 || (!decide ((eNormal s n l).1.1 = n) || !sameV (eNormal s n l).1.2 l) then (([], []), 2)
  else if 32 < ms.length then (([], []), 3)
  else if (eModsK s l ms).2 != 0 then (([], []), (eModsK s l ms).2)
  else eOut s n (eModsK s l ms).1
def minus (a b : List Bs) : List Bs := a.filter fun x => !b.contains x
def difs (n : Bs) (old new : List Bs) : List Md :=
  if (minus old new).length + (minus new old).length = 0 then []
  else if new.length = 0 then [⟨2, n, []⟩]
  else if old.length = 0 then [⟨1, n, new⟩]
  else if (minus old new).length = old.length then [⟨3, n, new⟩]
  else (if 0 < (minus old new).length then [⟨2, n, minus old new⟩] else []) ++ (if 0 < (minus new old).length then [⟨1, n, minus new old⟩] else [])
def eDiff (n : Bs) (l : List Idn.Att) (m : Bs) (k : List Idn.Att) : List Md :=
  if eCheck n l != 0 || eCheck m k != 0 then [] else (Lib.compact (Idn.srt (namesL l ++ namesL k))).flatMap fun x => difs x (getL l x) (getL k x)
def plainB (c : UInt8) : Bool := decide (33 ≤ c.toNat) && (decide (c.toNat ≤ 126) && ![37, 124, 44, 61, 59, 34].contains c)
def hexB (n : Nat) : UInt8 := if n < 10 then UInt8.ofNat (48 + n) else UInt8.ofNat (55 + n)
def esc1 (c : UInt8) : Bs := if plainB c then [c] else [37, hexB (c.toNat / 16), hexB (c.toNat % 16)]
def esc (l : Bs) : Bs := l.flatMap esc1
def eLine (a v : Bs) : Bs := a ++ 32 :: (esc v ++ [10])
def eBody (l : List Idn.Att) : Bs := l.flatMap fun a => a.vals.flatMap fun v => eLine a.name v
def entryN : Bs := [101, 110, 116, 114, 121]
def eText (n : Bs) (l : List Idn.Att) : Bs × Int := if eCheck n l != 0 then ([], eCheck n l) else (eLine entryN n ++ eBody (Idn.aSorted l), 0)
end Go.Proofs.YtoopoglkeeoamaaGreatDoor
/- Plain laws: the general normal form of attributes; attributes in the order of their names. -/
namespace Idn
open Go
theorem mem_lows {l : List Att} {m : Bs} : m ∈ lows l ↔ valsOf l m ≠ [] := by
  unfold lows valsOf
  rw [Ne, List.flatMap_eq_nil_iff, List.mem_map]
  constructor
  · rintro ⟨a, ha, rfl⟩ h
    rw [List.mem_filter] at ha
    have := h a (List.mem_filter.2 ⟨ha.1, by simp⟩)
    rw [this] at ha; simp at ha
  · intro h
    refine Decidable.byContradiction fun hn => h fun a ha => ?_
    rw [List.mem_filter] at ha
    refine Decidable.byContradiction fun hv => hn ⟨a, List.mem_filter.2 ⟨ha.1, ?_⟩, by simpa using ha.2⟩
    simpa using List.length_pos_iff.2 hv
theorem sort_names {q : List Att} {ns : List Bs} {f : Bs → Att} (h1 : ∀ a ∈ q, a = f a.name) (h2 : (q.map (·.name)).Nodup) (h3 : ∀ m, m ∈ q.map (·.name) ↔ m ∈ ns) (h4 : ns.Pairwise (· < ·)) :
    q.mergeSort (fun a b => decide (a.name ≤ b.name)) = ns.map f := by
  have hp : (q.mergeSort fun a b => decide (a.name ≤ b.name)).Perm q := List.mergeSort_perm _ _
  have hs : (q.mergeSort fun a b => decide (a.name ≤ b.name)).Pairwise fun a b => decide (a.name ≤ b.name) = true := List.pairwise_mergeSort (fun a b c h1 h2 => by
      rw [decide_eq_true_eq] at *; exact List.le_trans h1 h2) (fun a b => by
      rw [Bool.or_eq_true, decide_eq_true_eq, decide_eq_true_eq]; exact List.le_total _ _) _
  generalize (q.mergeSort fun a b => decide (a.name ≤ b.name)) = r at *
  have e : r.map (·.name) = ns := by
    refine uniq _ _ ?_ h4 fun x => by rw [(hp.map (·.name)).mem_iff]; exact h3 x
    rw [← (hp.map (·.name)).nodup_iff] at h2
    rw [List.pairwise_map]
    rw [List.nodup_iff_pairwise_ne, List.pairwise_map] at h2
    refine List.Pairwise.imp₂ ?_ hs h2
    intro a b h1 h2
    rw [decide_eq_true_eq] at h1
    exact Decidable.byContradiction fun hn => h2 (List.le_antisymm h1 (List.not_lt.1 hn))
  rw [← e, List.map_map]
  have : ∀ a ∈ r, (f ∘ (·.name)) a = a := fun a ha => (h1 a (hp.mem_iff.1 ha)).symm
  rw [List.map_congr_left this, List.map_id']
theorem grp_vals {l : List Att} {b : Att} (hb : b ∈ grp [] l) : b.vals = valsOf l b.name := by
  have h1 := tot_self (grp [] l) (grp_nd l [] (by simp)) b hb
  rw [grp_tot _ l [] (by simp)] at h1
  exact h1.symm
def full (a : Att) : Bool := decide (a.vals.length ≠ 0)
/-- the normal form of any attributes, by the layer, is the reference's -/
theorem sortedG_law (l : List Att) : (((grp [] l).filter full).map normA).mergeSort (fun a b => decide (a.name ≤ b.name)) = rSorted l := by
  refine sort_names (f := rOne l) (fun a ha => ?_) ?_ (fun m => ?_) (insAll_lt _)
  · obtain ⟨b, hb, rfl⟩ := List.mem_map.1 ha
    have hv := grp_vals (List.mem_filter.1 hb).1
    unfold normA rOne
    dsimp only
    rw [← hv]
    congr 1
    exact law b.vals
  · rw [norm_names]
    exact (List.filter_sublist.map _).nodup (grp_nd l [] (by simp))
  · rw [norm_names, insAll_mem, mem_lows]
    constructor
    · intro h
      obtain ⟨b, hb, rfl⟩ := List.mem_map.1 h
      rw [List.mem_filter] at hb
      rw [← grp_vals hb.1]
      intro e
      have := hb.2
      unfold full at this
      rw [e] at this
      simp at this
    · intro h
      have hm : m ∈ (grp [] l).map (·.name) := by
        rw [grp_names]
        have h2 := mem_lows.2 h
        unfold lows at h2
        obtain ⟨a, ha, rfl⟩ := List.mem_map.1 h2
        exact .inr (List.mem_map.2 ⟨a, (List.mem_filter.1 ha).1, rfl⟩)
      obtain ⟨b, hb, rfl⟩ := List.mem_map.1 hm
      refine List.mem_map.2 ⟨b, List.mem_filter.2 ⟨hb, ?_⟩, rfl⟩
      unfold full
      rw [grp_vals hb, decide_eq_true_eq]
      intro e
      exact h (List.eq_nil_of_length_eq_zero e)
theorem attErr_zero {p : List Att} {a : Att} (h : attErr p a = 0) : name a.name = true ∧ ixA p a.name = none ∧ a.vals.length ≠ 0 ∧ a.vals.length ≤ 16 ∧ valsErr [] a.vals = 0 := by
  unfold attErr at h
  split at h
  · cases h
  · rename_i h1
    split at h
    · cases h
    · rename_i h2
      split at h
      · cases h
      · rename_i h3
        split at h
        · cases h
        · rename_i h4
          exact ⟨by simpa using h1, by simpa using h2, h3, by omega, h⟩
theorem atts_nd : ∀ (l p : List Att), attsErr p l = 0 → (∀ a ∈ l, ∀ b ∈ p, lower b.name ≠ lower a.name) ∧ (l.map fun a => lower a.name).Nodup ∧ ∀ a ∈ l, name a.name = true ∧ valsErr [] a.vals = 0
  | [], _, _ => by simp
  | c :: l, p, h => by
    rw [attsErr] at h
    by_cases hb : attErr p c = 0
    · rw [if_neg (by simpa using hb)] at h
      obtain ⟨z1, z2, z3, z4, z5⟩ := attErr_zero hb
      obtain ⟨i1, i2, i3⟩ := atts_nd l (p ++ [c]) h
      have hc : ∀ b ∈ p, lower b.name ≠ lower c.name := fun b hbm => by
        have := List.findIdx?_eq_none_iff.1 z2 b hbm
        simpa using this
      refine ⟨fun a ha b hbm => ?_, ?_, fun a ha => ?_⟩
      · rcases List.mem_cons.1 ha with rfl | ha
        · exact hc b hbm
        · exact i1 a ha b (List.mem_append_left _ hbm)
      · rw [List.map_cons, List.nodup_cons]
        refine ⟨fun hm => ?_, i2⟩
        obtain ⟨a, ha, e⟩ := List.mem_map.1 hm
        exact i1 a ha c (List.mem_append_right _ (by simp)) e.symm
      · rcases List.mem_cons.1 ha with rfl | ha
        · exact ⟨z1, z5⟩
        · exact i3 a ha
    · rw [if_pos (by simpa using hb)] at h
      exact absurd h hb
theorem aCheck_all {l : List Att} (h : aCheck l = 0) : l.length ≤ 32 ∧ (l.map fun a => lower a.name).Nodup ∧ ∀ a ∈ l, name a.name = true ∧ valsErr [] a.vals = 0 := by
  unfold aCheck at h
  split at h
  · cases h
  · obtain ⟨_, h2, h3⟩ := atts_nd l [] h
    exact ⟨by omega, h2, h3⟩
end Idn
namespace Go.Proofs.YtoopoglkeeoamaaGreatDoor
open Go.RowKit Go.Sort
open Idn (L B Bs)
theorem tyLook_low (s : Idn.Sch) (n : Bs) : tyLook s (Idn.lower n) = tyLook s n := by unfold tyLook Idn.ixT; rw [Idn.lower_lower]
theorem sNorm_low (s : Idn.Sch) (n v : Bs) : sNorm s (Idn.lower n) v = sNorm s n v := by unfold sNorm kNorm; rw [tyLook_low]
theorem eValsK_len (s : Idn.Sch) (n : Bs) : ∀ (l acc : List Bs), (eValsK s n acc l).2 = 0 → (eValsK s n acc l).1.length = acc.length + l.length
  | [], acc, _ => by simp [eValsK]
  | v :: l, acc, h => by
    rw [eValsK] at h ⊢
    by_cases h0 : (sNorm s n v).2 = 0
    · rw [if_neg (by simpa using h0)] at h ⊢
      rw [eValsK_len s n l _ h]; simp; omega
    · rw [if_pos (by simpa using h0)] at h
      exact absurd h h0
theorem eAtt_len {s : Idn.Sch} {n : Bs} {l : List Bs} (h : (eAtt s n l).2 = 0) : (eAtt s n l).1.length = l.length := by
  unfold eAtt at h ⊢
  split at h
  · rename_i h1
    exact absurd h (by simpa using h1)
  · rename_i h1
    rw [if_neg h1]
    split at h
    · cases h
    · rename_i h2
      rw [if_neg h2]
      have := eValsK_len s n l [] (by simpa [eVals] using h1)
      simpa [eVals] using this
theorem eAttsK_full (s : Idn.Sch) : ∀ (l acc : List Idn.Att), (∀ a ∈ acc, a.vals.length ≠ 0) → (∀ a ∈ l, a.vals.length ≠ 0) → ∀ a ∈ (eAttsK s acc l).1, a.vals.length ≠ 0
  | [], _, h, _ => h
  | b :: l, acc, h, hl => by
    rw [eAttsK]
    split
    · simp
    · rename_i h1
      refine eAttsK_full s l _ (fun a ha => ?_) fun a ha => hl a (List.mem_cons_of_mem _ ha)
      rcases List.mem_append.1 ha with ha | ha
      · exact h a ha
      · rw [List.mem_singleton] at ha
        subst ha
        show (eAtt s b.name b.vals).1.length ≠ 0
        rw [eAtt_len (by simpa using h1)]
        exact hl b List.mem_cons_self
theorem byLow_full {l : List Idn.Att} (h : ∀ a ∈ l, a.vals.length ≠ 0) : ∀ a ∈ byLow l, a.vals.length ≠ 0 := fun a ha => h a ((List.mergeSort_perm _ _).mem_iff.1 ha)
end Go.Proofs.YtoopoglkeeoamaaGreatDoor
/- Plain laws: the changes of attributes by the reference are the layer's; differences. -/
namespace Idn
open Go
theorem find_name (f : Bs → Att) (hf : ∀ n, (f n).name = n) (n : Bs) : ∀ ns : List Bs, (match (ns.map f).findIdx? (fun a => decide (a.name = n)) with
    | none => []
    | some k => match (ns.map f)[k]? with | none => [] | some a => a.vals) = if n ∈ ns then (f n).vals else []
  | [] => by simp
  | m :: ns => by
    have ih := find_name f hf n ns
    rw [List.map_cons, List.findIdx?_cons, hf m]
    by_cases h : m = n
    · subst h; simp
    · have hn : n ≠ m := fun e => h e.symm
      simp only [h, decide_false, Bool.false_eq_true, if_false, List.mem_cons, hn, false_or]
      rw [← ih]
      cases (ns.map f).findIdx? (fun a => decide (a.name = n)) with
      | none => rfl
      | some k => simp
theorem insAll_length {v : List Bs} (h : v.Nodup) : (insAll v).length = v.length := by
  have h1 : (insAll v).Nodup := (insAll_lt v).imp fun h e => by subst e; exact List.lt_irrefl _ h
  exact ((List.perm_ext_iff_of_nodup h1 h).2 fun x => insAll_mem v x).length_eq
theorem insAll_nodup (v : List Bs) : (insAll v).Nodup := (insAll_lt v).imp fun h e => by subst e; exact List.lt_irrefl _ h
theorem valsOf_app (x y : List Att) (n : Bs) : valsOf (x ++ y) n = valsOf x n ++ valsOf y n := by unfold valsOf; rw [List.filter_append, List.flatMap_append]
theorem rSorted_name {l : List Att} {a : Att} (h : a ∈ rSorted l) : lower a.name = a.name := by
  unfold rSorted at h
  obtain ⟨m, hm, rfl⟩ := List.mem_map.1 h
  rw [insAll_mem] at hm
  unfold lows at hm
  obtain ⟨b, _, rfl⟩ := List.mem_map.1 hm
  exact lower_lower _
def rWo (l : List Att) (n : Bs) : List Att := (rSorted l).filter fun a => !decide (a.name = lower n)
theorem rWo_none (l : List Att) (n : Bs) : valsOf (rWo l n) (lower n) = [] := by
  unfold valsOf
  rw [List.flatMap_eq_nil_iff]
  intro a ha
  rw [List.mem_filter] at ha
  unfold rWo at ha
  rw [List.mem_filter] at ha
  have h1 := rSorted_name ha.1.1
  have h2 := ha.1.2
  have h3 := ha.2
  rw [h1] at h3
  simp at h2 h3
  exact absurd h3 h2
end Idn
namespace Go.Proofs.YtoopoglkeeoamaaGreatDoor
open Go.RowKit Go.Sort
open Idn (L B Bs)
theorem rGet_law (l : List Idn.Att) (n : Bs) : rGet l n = Idn.insAll (Idn.valsOf l (Idn.lower n)) := by
  unfold rGet Idn.rSorted
  refine Eq.trans (Idn.find_name (Idn.rOne l) (fun _ => rfl) (Idn.lower n) (Idn.insAll (Idn.lows l))) ?_
  split
  · rfl
  · rename_i h
    rw [Idn.insAll_mem, Idn.mem_lows] at h
    rw [Decidable.not_not.1 h]; rfl
theorem valsOf_sorted (m : List Idn.Att) (n : Bs) : Idn.valsOf (Idn.rSorted m) (Idn.lower n) = Idn.insAll (Idn.valsOf m (Idn.lower n)) := by
  unfold Idn.rSorted
  have hlow : ∀ x ∈ Idn.insAll (Idn.lows m), Idn.lower x = x := fun x hx => by
    rw [Idn.insAll_mem] at hx
    unfold Idn.lows at hx
    obtain ⟨b, _, rfl⟩ := List.mem_map.1 hx
    exact Idn.lower_lower _
  have hnd := Idn.insAll_nodup (Idn.lows m)
  have hmem : Idn.lower n ∈ Idn.insAll (Idn.lows m) ↔ Idn.valsOf m (Idn.lower n) ≠ [] := by rw [Idn.insAll_mem, Idn.mem_lows]
  generalize Idn.insAll (Idn.lows m) = ns at *
  have key : ∀ ns : List Bs, (∀ x ∈ ns, Idn.lower x = x) → ns.Nodup → Idn.valsOf (ns.map (Idn.rOne m)) (Idn.lower n) = if Idn.lower n ∈ ns then Idn.insAll (Idn.valsOf m (Idn.lower n)) else [] := by
    intro ns
    induction ns with
    | nil => intro _ _; rfl
    | cons x ns ih =>
      intro h1 h2
      rw [List.nodup_cons] at h2
      have ih := ih (fun y hy => h1 y (List.mem_cons_of_mem _ hy)) h2.2
      have hx := h1 x List.mem_cons_self
      unfold Idn.valsOf at ih ⊢
      rw [List.map_cons]
      by_cases he : x = Idn.lower n
      · have hn : Idn.lower n ∉ ns := he ▸ h2.1
        rw [if_neg hn] at ih
        rw [List.filter_cons_of_pos (by show decide (Idn.lower x = Idn.lower n) = true; rw [hx, he]; simp), List.flatMap_cons, ih, List.append_nil, if_pos (by rw [he]; exact List.mem_cons_self)]
        show Idn.insAll (Idn.valsOf m x) = _
        rw [he]; rfl
      · rw [List.filter_cons_of_neg (by show ¬ decide (Idn.lower x = Idn.lower n) = true; rw [hx]; simpa using he), ih]
        have : Idn.lower n ∈ x :: ns ↔ Idn.lower n ∈ ns := by
          rw [List.mem_cons]
          exact ⟨fun h => h.resolve_left fun e => he e.symm, .inr⟩
        simp only [this]
  rw [key ns hlow hnd]
  split
  · rfl
  · rename_i h
    rw [hmem, Decidable.not_not] at h
    rw [h]; rfl
theorem insAll_idem (v : List Bs) : Idn.insAll (Idn.insAll v) = Idn.insAll v := Idn.uniq _ _ (Idn.insAll_lt _) (Idn.insAll_lt _) fun x => by rw [Idn.insAll_mem]
theorem rGet_sorted (m : List Idn.Att) (n : Bs) : rGet (Idn.rSorted m) n = rGet m n := by rw [rGet_law, rGet_law, valsOf_sorted, insAll_idem]
theorem aSet_get (l : List Idn.Att) (n : Bs) (v : List Bs) : rGet (aSet (Idn.rSorted l) n v) n = Idn.insAll v := by
  have e : aSet (Idn.rSorted l) n v = Idn.rSorted (Idn.rWo l n ++ [⟨Idn.lower n, v⟩]) := by unfold aSet Idn.rWo; rfl
  rw [e, rGet_sorted, rGet_law, Idn.valsOf_app, Idn.rWo_none, List.nil_append]
  congr 1
  unfold Idn.valsOf
  simp [Idn.lower_lower]
theorem vErr_nd (old : List Bs) : ∀ (l p : List Bs), vErr old p l = 0 → p.Nodup → (∀ x ∈ p, x ∉ old) → (p ++ l).Nodup ∧ ∀ x ∈ p ++ l, x ∉ old
  | [], p, _, h1, h2 => by rw [List.append_nil]; exact ⟨h1, h2⟩
  | v :: l, p, h, h1, h2 => by
    rw [vErr] at h
    split at h
    · cases h
    · split at h
      · cases h
      · rename_i h3
        split at h
        · cases h
        · rename_i h4
          rw [List.contains_iff_mem] at h3 h4
          have := vErr_nd old l (p ++ [v]) h (by rw [List.nodup_append]; exact ⟨h1, by simp, fun a ha b hb e => by simp at hb; subst hb; subst e; exact h4 ha⟩) (fun x hx => by
            rcases List.mem_append.1 hx with hx | hx
            · exact h2 x hx
            · simp at hx; subst hx; exact h3)
          rw [List.append_assoc] at this
          exact this
end Go.Proofs.YtoopoglkeeoamaaGreatDoor
/- Plain laws: the differences of two entries by the reference are the layer's. -/
namespace Go.Proofs.YtoopoglkeeoamaaGreatDoor
open Go.RowKit Go.Sort
open Idn (L B Bs)
theorem eCheck_zero {n : Bs} {l : List Idn.Att} (h : eCheck n l = 0) : Idn.aCheck l = 0 := by
  unfold eCheck at h
  split at h
  · cases h
  · exact h
theorem rSorted_pw (l : List Idn.Att) : ((Idn.rSorted l).map (·.name)).Pairwise (· < ·) := by
  have : (Idn.rSorted l).map (·.name) = Idn.insAll (Idn.lows l) := by
    unfold Idn.rSorted
    rw [List.map_map]
    exact List.map_id' _
  rw [this]
  exact Idn.insAll_lt _
theorem insAll_ne {v : List Bs} (h : v ≠ []) : (Idn.insAll v).length ≠ 0 := by
  intro e
  have e2 := List.eq_nil_of_length_eq_zero e
  cases v with
  | nil => exact h rfl
  | cons x v =>
    have := (Idn.insAll_mem (x :: v) x).2 List.mem_cons_self
    rw [e2] at this; cases this
theorem rSorted_full (l : List Idn.Att) : ∀ a ∈ Idn.rSorted l, a.vals.length ≠ 0 := by
  intro a ha
  unfold Idn.rSorted at ha
  obtain ⟨m, hm, rfl⟩ := List.mem_map.1 ha
  rw [Idn.insAll_mem, Idn.mem_lows] at hm
  exact insAll_ne hm
/-- the text form by the reference -/
def rEText (n : Bs) (l : List Idn.Att) : Bs × Int := if eCheck n l != 0 then ([], eCheck n l) else (eLine entryN n ++ eBody (Idn.rSorted l), 0)
theorem rEText_eq (n : Bs) (l : List Idn.Att) : rEText n l = eText n l := by
  unfold rEText eText
  split
  · rfl
  · rename_i h
    have h1 := eCheck_zero (n := n) (l := l) (by simpa using h)
    rw [Idn.rSorted_eq fun a ha => ((aCheck_zero h1).2 a ha).1]
end Go.Proofs.YtoopoglkeeoamaaGreatDoor
/- Plain law of EntryStable. -/
namespace Go.Proofs.YtoopoglkeeoamaaGreatDoor
open Go.RowKit Go.Sort
open Idn (L B Bs)
theorem sNorm_idem {s : Idn.Sch} {n v a : Bs} (h : sNorm s n v = (a, 0)) : sNorm s n a = (a, 0) := by
  obtain ⟨h1, h2, _⟩ := sNorm_ok h
  exact sNorm_of h1 (normV_idem h2)
def Nor (s : Idn.Sch) (n : Bs) (l : List Bs) : Prop := ∀ x ∈ l, sNorm s n x = (x, 0)
def QN (s : Idn.Sch) (l : List Idn.Att) : Prop := Idn.rSorted l = l ∧ ∀ a ∈ l, Nor s a.name a.vals
theorem Nor.low {s : Idn.Sch} {n : Bs} {l : List Bs} (h : Nor s n l) : Nor s (Idn.lower n) l := fun x hx => by rw [sNorm_low]; exact h x hx
theorem Nor.same {s : Idn.Sch} {n m : Bs} {l : List Bs} (h : Nor s n l) (e : Idn.lower n = Idn.lower m) : Nor s m l := fun x hx => by rw [← sNorm_low, ← e, sNorm_low]; exact h x hx
theorem eValsK_nor (s : Idn.Sch) (n : Bs) : ∀ (l acc : List Bs), Nor s n acc → Nor s n (eValsK s n acc l).1
  | [], _, h => h
  | v :: l, acc, h => by
    rw [eValsK]
    split
    · intro x hx; cases hx
    · rename_i h0
      refine eValsK_nor s n l _ fun x hx => ?_
      rcases List.mem_append.1 hx with hx | hx
      · exact h x hx
      · rw [List.mem_singleton] at hx
        subst hx
        exact sNorm_idem (Prod.ext rfl (by simpa using h0) : sNorm s n v = ((sNorm s n v).1, 0))
theorem eAtt_nor (s : Idn.Sch) (n : Bs) (l : List Bs) : Nor s n (eAtt s n l).1 := by
  unfold eAtt
  split
  · intro x hx; cases hx
  · split
    · intro x hx; cases hx
    · exact eValsK_nor s n l [] (fun x hx => by cases hx)
theorem eAttsK_nor (s : Idn.Sch) : ∀ (l acc : List Idn.Att), (∀ a ∈ acc, Nor s a.name a.vals) → ∀ a ∈ (eAttsK s acc l).1, Nor s a.name a.vals
  | [], _, h => h
  | b :: l, acc, h => by
    rw [eAttsK]
    split
    · simp
    · refine eAttsK_nor s l _ fun a ha => ?_
      rcases List.mem_append.1 ha with ha | ha
      · exact h a ha
      · rw [List.mem_singleton] at ha
        subst ha
        exact eAtt_nor s b.name b.vals
theorem mem_valsOf {l : List Idn.Att} {n x : Bs} : x ∈ Idn.valsOf l n ↔ ∃ a ∈ l, Idn.lower a.name = n ∧ x ∈ a.vals := by
  unfold Idn.valsOf
  rw [List.mem_flatMap]
  constructor
  · rintro ⟨a, ha, hx⟩
    rw [List.mem_filter, decide_eq_true_eq] at ha
    exact ⟨a, ha.1, ha.2, hx⟩
  · rintro ⟨a, h1, h2, hx⟩
    exact ⟨a, List.mem_filter.2 ⟨h1, by rw [decide_eq_true_eq]; exact h2⟩, hx⟩
theorem valsOf_nor {s : Idn.Sch} {l : List Idn.Att} (h : ∀ a ∈ l, Nor s a.name a.vals) (n : Bs) : Nor s n (Idn.valsOf l (Idn.lower n)) := fun x hx => by
  obtain ⟨a, ha, e, hx⟩ := mem_valsOf.1 hx
  exact Nor.same (h a ha) e x hx
theorem rSorted_nor {s : Idn.Sch} {l : List Idn.Att} (h : ∀ a ∈ l, Nor s a.name a.vals) : ∀ a ∈ Idn.rSorted l, Nor s a.name a.vals := by
  intro a ha x hx
  have hl := Idn.rSorted_name ha
  unfold Idn.rSorted at ha
  obtain ⟨m, hm, rfl⟩ := List.mem_map.1 ha
  have hx : x ∈ Idn.insAll (Idn.valsOf l m) := hx
  rw [Idn.insAll_mem] at hx
  have hl : Idn.lower m = m := hl
  rw [← hl] at hx
  exact valsOf_nor h m x hx
theorem rSorted_idem (l : List Idn.Att) : Idn.rSorted (Idn.rSorted l) = Idn.rSorted l := by
  have e1 : Idn.insAll (Idn.lows (Idn.rSorted l)) = Idn.insAll (Idn.lows l) := by
    refine Idn.uniq _ _ (Idn.insAll_lt _) (Idn.insAll_lt _) fun x => ?_
    rw [Idn.insAll_mem]
    have : Idn.lows (Idn.rSorted l) = Idn.insAll (Idn.lows l) := by
      rw [Idn.lows_all (rSorted_full l)]
      have h2 : ∀ a ∈ Idn.rSorted l, Idn.lower a.name = a.name := fun a ha => Idn.rSorted_name ha
      rw [List.map_congr_left h2]
      unfold Idn.rSorted
      rw [List.map_map]
      exact List.map_id' _
    rw [this]
  have e2 : ∀ n ∈ Idn.insAll (Idn.lows l), Idn.rOne (Idn.rSorted l) n = Idn.rOne l n := fun n hn => by
    have hn : Idn.lower n = n := by
      rw [Idn.insAll_mem] at hn
      unfold Idn.lows at hn
      obtain ⟨b, _, rfl⟩ := List.mem_map.1 hn
      exact Idn.lower_lower _
    have h := valsOf_sorted l n
    rw [hn] at h
    unfold Idn.rOne
    rw [h, insAll_idem]
  rw [show Idn.rSorted (Idn.rSorted l) = (Idn.insAll (Idn.lows (Idn.rSorted l))).map (Idn.rOne (Idn.rSorted l)) from rfl, e1, List.map_congr_left e2]
  rfl
theorem QN.sorted {s : Idn.Sch} {l : List Idn.Att} (h : ∀ a ∈ l, Nor s a.name a.vals) : QN s (Idn.rSorted l) := ⟨rSorted_idem l, rSorted_nor h⟩
theorem QN.full {s : Idn.Sch} {l : List Idn.Att} (h : QN s l) : ∀ a ∈ l, a.vals.length ≠ 0 := fun a ha => rSorted_full l a (h.1.symm ▸ ha)
theorem QN.name {s : Idn.Sch} {l : List Idn.Att} (h : QN s l) : ∀ a ∈ l, Idn.lower a.name = a.name := fun a ha => Idn.rSorted_name (l := l) (h.1.symm ▸ ha)
theorem sValid_check {s : Idn.Sch} {l : List Idn.Att} (h : sValid s l = 0) : Idn.aCheck l = 0 := by
  unfold sValid at h
  split at h
  · rename_i hn; simp [h] at hn
  · rename_i hn; simpa using hn
/-- what eNormal gives without an error -/
theorem nf_parts {s : Idn.Sch} {n : Bs} {l : List Idn.Att} {x : En} (h : eNormal s n l = (x, 0)) : Idn.cleanN x.1 = (x.1, 0) ∧ x.1 ≠ [] ∧ QN s x.2 ∧ sValid s x.2 = 0 := by
  unfold eNormal at h
  split at h
  · simp at h
  · rename_i h1
    rw [Bool.or_eq_true, not_or] at h1
    split at h
    · rename_i h2; simp only [Prod.mk.injEq] at h; simp [h.2] at h2
    · rename_i h2
      have h0 : Idn.aCheck l = 0 := by simpa using h2
      have h4 := fun a ha => ((aCheck_zero h0).2 a ha).1
      split at h
      · rename_i h3; simp only [Prod.mk.injEq] at h; simp [h.2] at h3
      · unfold eOut at h
        split at h
        · rename_i h3; simp only [Prod.mk.injEq] at h; simp [h.2] at h3
        · rename_i h3
          simp only [Prod.mk.injEq, and_true] at h
          subst h
          dsimp only
          have hc : Idn.cleanN n = ((Idn.cleanN n).1, 0) := Prod.ext rfl (by simpa using h1.1)
          obtain ⟨_, _, _, _, hcl, _⟩ := Idn.clean_form hc
          refine ⟨hcl, by simpa using h1.2, ?_, by simpa using h3⟩
          rw [← Idn.rSorted_eq (eAttsK_full s (byLow l) [] (by simp) (byLow_full h4))]
          exact QN.sorted (eAttsK_nor s (byLow l) [] (by simp))
theorem QN.set {s : Idn.Sch} {l : List Idn.Att} (h : QN s l) {n : Bs} {v : List Bs} (hv : Nor s n v) : QN s (aSet (Idn.rSorted l) n v) := by
  unfold aSet
  refine QN.sorted fun a ha => ?_
  rcases List.mem_append.1 ha with ha | ha
  · have := (List.mem_filter.1 ha).1
    rw [h.1] at this
    exact h.2 a this
  · rw [List.mem_singleton] at ha
    subst ha
    exact hv.low
theorem rmK_sub : ∀ (v old o : List Bs), rmK old v = some o → ∀ x ∈ o, x ∈ old
  | [], old, o, h, x, hx => by rw [rmK] at h; injection h with h; subst h; exact hx
  | y :: v, old, o, h, x, hx => by
    rw [rmK] at h
    split at h
    · exact List.mem_of_mem_erase (rmK_sub v _ o h x hx)
    · cases h
theorem sameV_eq {a b : List Idn.Att} (h : sameV a b = true) : a = b := by
  unfold sameV at h
  rw [decide_eq_true_eq] at h
  have hi : ∀ x y : Idn.Att, (x.name, x.vals) = (y.name, y.vals) → x = y := fun x y e => by
    cases x; cases y; simp only [Prod.mk.injEq] at e; rw [e.1, e.2]
  exact List.map_inj_right hi |>.1 h
theorem sameV_refl (a : List Idn.Att) : sameV a a = true := by unfold sameV; simp
end Go.Proofs.YtoopoglkeeoamaaGreatDoor
/- Plain law of EntryTurns. -/
namespace Go.Proofs.YtoopoglkeeoamaaGreatDoor
open Go.RowKit Go.Sort
open Idn (L B Bs)
theorem valsOf_filter (S : List Idn.Att) (n m : Bs) (hS : ∀ a ∈ S, Idn.lower a.name = a.name) (h : Idn.lower m ≠ Idn.lower n) : Idn.valsOf (S.filter fun a => !decide (a.name = Idn.lower n)) (Idn.lower m) = Idn.valsOf S (Idn.lower m) := by
  unfold Idn.valsOf
  rw [List.filter_filter]
  congr 1
  refine List.filter_congr fun a ha => ?_
  by_cases e : Idn.lower a.name = Idn.lower m
  · rw [decide_eq_true e, Bool.true_and]
    have : a.name ≠ Idn.lower n := fun e2 => h (by rw [← e, hS a ha, e2])
    simpa using this
  · rw [decide_eq_false e, Bool.false_and]
/-- one attribute has been set: the values of all -/
theorem set_get (S : List Idn.Att) (n : Bs) (v : List Bs) (m : Bs) : rGet (aSet (Idn.rSorted S) n v) m = if Idn.lower m = Idn.lower n then Idn.insAll v else rGet S m := by
  by_cases e : Idn.lower m = Idn.lower n
  · rw [if_pos e]
    have h := aSet_get S n v
    rw [rGet_law] at h ⊢
    rw [e]; exact h
  · rw [if_neg e]
    unfold aSet
    rw [rGet_sorted, rGet_law, Idn.valsOf_app, valsOf_filter _ _ _ (fun a ha => Idn.rSorted_name ha) e, valsOf_sorted]
    have : Idn.valsOf [⟨Idn.lower n, v⟩] (Idn.lower m) = [] := by
      unfold Idn.valsOf
      have : Idn.lower n ≠ Idn.lower m := fun e2 => e e2.symm
      simp [Idn.lower_lower, this]
    rw [this, List.append_nil, insAll_idem, rGet_law]
theorem rSorted_ext {S T : List Idn.Att} (h : ∀ m, rGet S m = rGet T m) : Idn.rSorted S = Idn.rSorted T := by
  have hv : ∀ m, Idn.lower m = m → Idn.insAll (Idn.valsOf S m) = Idn.insAll (Idn.valsOf T m) := fun m hm => by
    have := h m
    rw [rGet_law, rGet_law, hm] at this
    exact this
  have low : ∀ (l : List Idn.Att) m, m ∈ Idn.lows l → Idn.lower m = m := fun l m hm => by
    unfold Idn.lows at hm
    obtain ⟨a, _, rfl⟩ := List.mem_map.1 hm
    exact Idn.lower_lower _
  have ne : ∀ v : List Bs, v ≠ [] ↔ Idn.insAll v ≠ [] := fun v => by
    constructor
    · intro h e; exact insAll_ne h (by rw [e]; rfl)
    · intro h e; exact h (by rw [e]; rfl)
  have hmem : ∀ m, m ∈ Idn.lows S ↔ m ∈ Idn.lows T := fun m => by
    constructor
    · intro hm
      have hl := low S m hm
      rw [Idn.mem_lows, ne, ← hv m hl, ← ne, ← Idn.mem_lows]; exact hm
    · intro hm
      have hl := low T m hm
      rw [Idn.mem_lows, ne, hv m hl, ← ne, ← Idn.mem_lows]; exact hm
  have e1 : Idn.insAll (Idn.lows S) = Idn.insAll (Idn.lows T) := Idn.uniq _ _ (Idn.insAll_lt _) (Idn.insAll_lt _) fun x => by rw [Idn.insAll_mem, Idn.insAll_mem]; exact hmem x
  unfold Idn.rSorted
  rw [e1]
  refine List.map_congr_left fun m hm => ?_
  rw [Idn.insAll_mem] at hm
  unfold Idn.rOne
  rw [hv m (low T m hm)]
theorem QN.ext {s : Idn.Sch} {S T : List Idn.Att} (h1 : QN s S) (h2 : QN s T) (h : ∀ m, rGet S m = rGet T m) : S = T := by
  rw [← h1.1, ← h2.1]; exact rSorted_ext h
/-- a state with the values of one name turned -/
structure Turned (s : Idn.Sch) (S : List Idn.Att) (n : Bs) (v : List Bs) (S' : List Idn.Att) : Prop where
  q : QN s S'
  g : ∀ m, Idn.lower m = m → rGet S' m = if m = n then v else rGet S m
theorem Turned.trans {s : Idn.Sch} {S S' S'' : List Idn.Att} {n : Bs} {v v' : List Bs} (h : Turned s S n v S') (h' : Turned s S' n v' S'') : Turned s S n v' S'' :=
  ⟨h'.q, fun m hm => by
    rw [h'.g m hm]
    split
    · rfl
    · rename_i e; rw [h.g m hm, if_neg e]⟩
section
variable {s : Idn.Sch} {S : List Idn.Att} {n : Bs} {old new : List Bs}
end
end Go.Proofs.YtoopoglkeeoamaaGreatDoor
/- The values of the small case of identitylaw08, reckoned. -/
namespace Go.Proofs.YtoopoglkeeoamaaGreatDoor
open Go.RowKit Go.Sort
open Idn (L B Bs)
namespace E8
def personN : Bs := [112, 101, 114, 115, 111, 110]
def cnN : Bs := [99, 110]
def snN : Bs := [115, 110]
def numN : Bs := [110, 117, 109]
def smallS : Idn.Sch := ⟨[⟨Idn.mainN, 1, false⟩, ⟨cnN, 1, false⟩, ⟨snN, 1, false⟩, ⟨numN, 3, false⟩], [⟨personN, [], [Idn.mainN, cnN], [snN, numN]⟩]⟩
def annN : Bs := [99, 110, 61, 97, 110, 110]
def CNN : Bs := [67, 78, 61, 65, 110, 110]
def ClassN : Bs := [67, 108, 97, 115, 115]
def rawL : List Idn.Att := [⟨ClassN, [personN]⟩, ⟨cnN, [[65, 110, 110]]⟩, ⟨numN, [[55]]⟩]
def midL : List Idn.Att := [⟨ClassN, [personN]⟩, ⟨cnN, [[97, 110, 110]]⟩, ⟨numN, [[55]]⟩]
def norL : List Idn.Att := [⟨Idn.mainN, [personN]⟩, ⟨cnN, [[97, 110, 110]]⟩, ⟨numN, [[55]]⟩]
def bobL : List Idn.Att := [⟨Idn.mainN, [personN]⟩, ⟨cnN, [[98, 111, 98]]⟩, ⟨numN, [[55]]⟩]
def snL : List Idn.Att := [⟨snN, [[97, 32, 98]]⟩]
def oneL : List Idn.Att := [⟨numN, [[49], [50]]⟩]
def twoL : List Idn.Att := [⟨numN, [[50], [51]]⟩]
def textB : Bs := [101, 110, 116, 114, 121, 32, 99, 110, 37, 51, 68, 97, 110, 110, 10, 115, 110, 32, 97, 37, 50, 48, 98, 10]
theorem ev_check : Idn.sCheck smallS = 0 := by kernel_rfl
theorem ev_sound : sound smallS = smallS := by rw [sound, if_pos ev_check]
theorem small_ssm : SSm smallS := by unfold SSm TSm CSm Sm smallS; decide
theorem ev_c1 : eCheck annN [] = 0 := by kernel_rfl
theorem ev_c2 : eCheck [] [] = 5 := by kernel_rfl
theorem ev_c3 : eCheck annN snL = 0 := by kernel_rfl
theorem ev_c4 : eCheck annN oneL = 0 := by kernel_rfl
theorem ev_c5 : eCheck annN twoL = 0 := by kernel_rfl
theorem sn_srt : Idn.aSorted snL = snL := by
  have h : (Idn.grp [] snL).map Idn.normA = snL := by kernel_rfl
  unfold Idn.aSorted
  rw [h]; simp [List.mergeSort, snL]
theorem ev_text : eText annN snL = (textB, 0) := by
  unfold eText
  rw [ev_c3, if_neg (by decide), sn_srt]
  kernel_rfl
theorem srt12 (a b : Bs) (h : decide (a ≤ b) = true) : Idn.srt [a, b] = [a, b] := by
  unfold Idn.srt
  simp [List.mergeSort, List.MergeSort.Internal.splitInTwo, List.merge, h, -decide_eq_true_eq]
theorem one_srt : Idn.aSorted oneL = oneL := by
  have h : (Idn.grp [] oneL).map Idn.normA = [⟨numN, Lib.compact (Idn.srt [[49], [50]])⟩] := by kernel_rfl
  unfold Idn.aSorted
  rw [h, srt12 _ _ (by decide)]
  have h2 : Lib.compact ([[49], [50]] : List Bs) = [[49], [50]] := by kernel_rfl
  rw [h2]; simp [List.mergeSort, oneL]
theorem two_srt : Idn.aSorted twoL = twoL := by
  have h : (Idn.grp [] twoL).map Idn.normA = [⟨numN, Lib.compact (Idn.srt [[50], [51]])⟩] := by kernel_rfl
  unfold Idn.aSorted
  rw [h, srt12 _ _ (by decide)]
  have h2 : Lib.compact ([[50], [51]] : List Bs) = [[50], [51]] := by kernel_rfl
  rw [h2]; simp [List.mergeSort, twoL]
theorem ev_diff : eDiff annN oneL annN twoL = [⟨2, numN, [[49]]⟩, ⟨1, numN, [[51]]⟩] := by
  unfold eDiff
  rw [ev_c4, ev_c5, if_neg (by decide)]
  have n1 : namesL oneL = [numN] := by unfold namesL; rw [one_srt]; rfl
  have n2 : namesL twoL = [numN] := by unfold namesL; rw [two_srt]; rfl
  have g1 : getL oneL numN = [[49], [50]] := by unfold getL; rw [one_srt]; kernel_rfl
  have g2 : getL twoL numN = [[50], [51]] := by unfold getL; rw [two_srt]; kernel_rfl
  rw [n1, n2]
  show (Lib.compact (Idn.srt [numN, numN])).flatMap _ = _
  rw [srt12 _ _ (by decide)]
  have h2 : Lib.compact [numN, numN] = [numN] := by kernel_rfl
  rw [h2]
  show difs numN (getL oneL numN) (getL twoL numN) ++ [] = _
  rw [g1, g2]
  kernel_rfl
theorem mrg3 {a b c : Idn.Att} {le : Idn.Att → Idn.Att → Bool} (h1 : le a b = true) (h2 : le b c = true) (h3 : le a c = true) : [a, b, c].mergeSort le = [a, b, c] := by
  simp [List.mergeSort, List.MergeSort.Internal.splitInTwo, List.merge, h1, h2, h3]
theorem raw_low : byLow rawL = rawL := by unfold byLow rawL; exact mrg3 (by decide) (by decide) (by decide)
theorem nor_low : byLow norL = norL := by unfold byLow norL; exact mrg3 (by decide) (by decide) (by decide)
theorem mid_srt : Idn.aSorted midL = norL := by
  have h : (Idn.grp [] midL).map Idn.normA = norL := by kernel_rfl
  unfold Idn.aSorted
  rw [h]; unfold norL; exact mrg3 (by decide) (by decide) (by decide)
theorem nor_srt : Idn.aSorted norL = norL := by
  have h : (Idn.grp [] norL).map Idn.normA = norL := by kernel_rfl
  unfold Idn.aSorted
  rw [h]; unfold norL; exact mrg3 (by decide) (by decide) (by decide)
theorem bob_srt : Idn.aSorted bobL = bobL := by
  have h : (Idn.grp [] bobL).map Idn.normA = bobL := by kernel_rfl
  unfold Idn.aSorted
  rw [h]; unfold bobL; exact mrg3 (by decide) (by decide) (by decide)
theorem cmpM : Lib.compact [Idn.mainN, cnN] = [Idn.mainN, cnN] := by kernel_rfl
theorem cmp4 : Lib.compact [Idn.mainN, cnN, numN, snN] = [Idn.mainN, cnN, numN, snN] := by kernel_rfl
theorem ev_must : mustL smallS personN = [Idn.mainN, cnN] := by
  have h : (((Idn.lin smallS personN).filterMap (smallS.classes[·]?)).flatMap (·.must)).map Idn.lower = [Idn.mainN, cnN] := by kernel_rfl
  unfold mustL merged
  rw [h]
  have e : sorted [Idn.mainN, cnN] = [Idn.mainN, cnN] := srt12 _ _ (by decide)
  rw [e, cmpM]
theorem srt4 : sorted [Idn.mainN, cnN, snN, numN] = [Idn.mainN, cnN, numN, snN] := by
  unfold sorted
  have e1 : decide (Idn.mainN ≤ cnN) = true := by decide
  have e2 : decide (snN ≤ numN) = false := by decide
  have e3 : decide (Idn.mainN ≤ numN) = true := by decide
  have e4 : decide (cnN ≤ numN) = true := by decide
  simp [List.mergeSort, List.MergeSort.Internal.splitInTwo, List.merge, e1, e2, e3, e4, -decide_eq_true_eq, -decide_eq_false_iff_not]
theorem ev_may : mayL smallS personN = [Idn.mainN, cnN, numN, snN] := by
  have h : (mustL smallS personN ++ ((Idn.lin smallS personN).filterMap (smallS.classes[·]?)).flatMap (·.may)).map Idn.lower = [Idn.mainN, cnN, snN, numN] := by
    rw [ev_must]; kernel_rfl
  unfold mayL merged
  rw [h, srt4, cmp4]
theorem ev_cl : classedB smallS [Idn.mainN, cnN, numN] [personN] = true := by
  have h0 : Idn.fold personN = personN := by kernel_rfl
  have h1 : clKey smallS personN = true := by kernel_rfl
  unfold classedB clsGo clsGo
  rw [h0, h1, ev_must, ev_may]
  decide
theorem ev_v1 : sValid smallS norL = 0 := by
  have a : Idn.aCheck norL = 0 := by kernel_rfl
  have g : vGo smallS norL = 0 := by kernel_rfl
  have n : namesL norL = [Idn.mainN, cnN, numN] := by unfold namesL; rw [nor_srt]; rfl
  have c : getL norL Idn.mainN = [personN] := by unfold getL; rw [nor_srt]; kernel_rfl
  unfold sValid
  rw [a, ev_sound, g, n, c, ev_cl]
  rfl
theorem ev_v2 : sValid smallS bobL = 0 := by
  have a : Idn.aCheck bobL = 0 := by kernel_rfl
  have g : vGo smallS bobL = 0 := by kernel_rfl
  have n : namesL bobL = [Idn.mainN, cnN, numN] := by unfold namesL; rw [bob_srt]; rfl
  have c : getL bobL Idn.mainN = [personN] := by unfold getL; rw [bob_srt]; kernel_rfl
  unfold sValid
  rw [a, ev_sound, g, n, c, ev_cl]
  rfl
theorem ev_raw : eAttsK smallS [] rawL = (midL, 0) := by
  unfold eAttsK eAtt eVals eValsK sNorm
  rw [ev_sound]
  kernel_rfl
theorem ev_nor : eAttsK smallS [] norL = (norL, 0) := by
  unfold eAttsK eAtt eVals eValsK sNorm
  rw [ev_sound]
  kernel_rfl
theorem ev_n1 : eNormal smallS CNN rawL = ((annN, norL), 0) := by
  have c : Idn.cleanN CNN = (annN, 0) := by kernel_rfl
  have a : Idn.aCheck rawL = 0 := by kernel_rfl
  unfold eNormal eOut
  rw [c, a, raw_low, ev_raw, mid_srt, ev_v1]
  rfl
theorem ev_n2 : eNormal smallS annN norL = ((annN, norL), 0) := by
  have c : Idn.cleanN annN = (annN, 0) := by kernel_rfl
  have a : Idn.aCheck norL = 0 := by kernel_rfl
  unfold eNormal eOut
  rw [c, a, nor_low, ev_nor, nor_srt, ev_v1]
  rfl
theorem ev_mod : eMod smallS norL ⟨3, cnN, [[66, 111, 98]]⟩ = (bobL, 0) := by
  unfold eMod eAtt eVals eValsK sNorm
  rw [ev_sound]
  kernel_rfl
theorem ev_apply : eApply smallS annN norL [⟨3, cnN, [[66, 111, 98]]⟩] = ((annN, bobL), 0) := by
  have h1 : eModsK smallS norL [⟨3, cnN, [[66, 111, 98]]⟩] = (bobL, 0) := by
    unfold eModsK
    rw [ev_mod]; rfl
  have h2 : eOut smallS annN bobL = ((annN, bobL), 0) := by unfold eOut; rw [ev_v2]; rfl
  unfold eApply
  rw [ev_n2, h1]
  show (if _ then _ else if _ then _ else if _ then _ else eOut smallS annN bobL) = _
  rw [h2]
  kernel_rfl
end E8
end Go.Proofs.YtoopoglkeeoamaaGreatDoor
/- Modifications and entries in memory. -/
namespace Go.Proofs.YtoopoglkeeoamaaGreatDoor
open Go.RowKit Go.Sort
open Idn (L B Bs)
def EMd (w : World) (hi : Nat) (x : Md) (cs : List Value) : Prop := ∃ v, cs = [.int .i64 x.op, sv x.name, v] ∧ StrsV w hi v x.vals
abbrev ModsV (w : World) (hi : Nat) (v : Value) (l : List Md) : Prop := SlV (EMd w hi) w hi 3 v l
theorem EMd.keep {w w' : World} {hi : Nat} {x : Md} {cs : List Value} (h : EMd w hi x cs) (hb : Below hi w w') : EMd w' hi x cs := by
  obtain ⟨v, h1, h2⟩ := h
  exact ⟨v, h1, SlV.keep h2 hb⟩
theorem EMd.mono {w : World} {hi hi' : Nat} {x : Md} {cs : List Value} (h : EMd w hi x cs) (hh : hi ≤ hi') : EMd w hi' x cs := by
  obtain ⟨v, h1, h2⟩ := h
  exact ⟨v, h1, SlV.mono h2 hh⟩
theorem ModsV.keep {w w' : World} {hi : Nat} {v : Value} {l : List Md} (h : ModsV w hi v l) (hb : Below hi w w') : ModsV w' hi v l := SlV.keepE h hb fun _ _ _ he => he.keep hb
theorem ModsV.mono {w : World} {hi hi' : Nat} {v : Value} {l : List Md} (h : ModsV w hi v l) (hh : hi ≤ hi') : ModsV w hi' v l :=
  SlV.mono (SlV.keepE h (Below.refl _ _) fun _ _ _ he => he.mono hh) hh
theorem ModsV.cell {w : World} {hi : Nat} {A : Option Addr} {n c : Nat} {l : List Md} (h : ModsV w hi (.slice A n c) l) {k : Nat} (hk : k < l.length) :
    ∃ b off v, A = some ⟨b, off, none⟩ ∧ b < hi ∧ w.cell? ⟨b, off + k * 3, none⟩ = some (.int .i64 l[k].op) ∧ w.cell? ⟨b, off + k * 3 + 1, none⟩ = some (.string (B l[k].name)) ∧ w.cell? ⟨b, off + k * 3 + 2, none⟩ = some v ∧ StrsV w hi v l[k].vals := by
  obtain ⟨b, off, hA, hb, cs, h1, ⟨v, h2, h4⟩, h3⟩ := h.at_ hk
  subst h2
  exact ⟨b, off, v, hA, hb, by simpa using h3 0 _ rfl, by simpa [sv, Nat.add_assoc] using h3 1 _ rfl, by simpa [Nat.add_assoc] using h3 2 _ rfl, h4⟩
/-- an entry by value: its name, its attributes -/
def EntW (w : World) (hi : Nat) (v : Value) (n : Bs) (l : List Idn.Att) : Prop := ∃ a, v = .agg #[.string (B n), a] ∧ AttsV w hi a l
theorem EntW.keep {w w' : World} {hi : Nat} {v : Value} {n : Bs} {l : List Idn.Att} (h : EntW w hi v n l) (hb : Below hi w w') : EntW w' hi v n l := by
  obtain ⟨a, e, h1⟩ := h
  exact ⟨a, e, AttsV.keep h1 hb⟩
theorem EntW.mono {w : World} {hi hi' : Nat} {v : Value} {n : Bs} {l : List Idn.Att} (h : EntW w hi v n l) (hh : hi ≤ hi') : EntW w hi' v n l := by
  obtain ⟨a, e, h1⟩ := h
  exact ⟨a, e, AttsV.mono h1 hh⟩
/-- strings and an error -/
def RetSE (w : World) (r : List Bs × Int) (e : Ending) (w' : World) : Prop :=
  ∃ v, e = .returned (.tuple #[v, .int .i64 r.2]) ∧ w'.ownsRow w.heap.size 9 1 v r.1.length (r.1.map sv) ∧ Below w.heap.size w w'
end Go.Proofs.YtoopoglkeeoamaaGreatDoor
/- name.Valid, entry.Check. -/
namespace Go.Proofs.YtoopoglkeeoamaaGreatDoor
open Go.RowKit Go.Sort
open Idn (L B Bs drop_L take_L size_L)
theorem nm_valid_any (s : ByteArray) (w : World) (hs : s.size ≤ 1000000000) :
    Calls Tryz.prog 40 #[.string s] w fun e w' => e = .returned (.bool (validN (L s))) ∧ Below w.heap.size w w' := by
  have hN := nm_normal_any s w hs
  have hv := normal_valid (L s)
  generalize Idn.normal (L s) = r at *
  generalize validN (L s) = b at *
  obtain ⟨l, d⟩ := r
  subst hv
  go_enter Tryz.func40, Tryz.ntmps40
  go_wp2_with fail
  refine hN.mono ?_
  rintro e w1 ⟨v, rfl, hown, hb⟩
  clear hN
  go_wp2
  go_ret
  exact ⟨rfl, hb⟩
set_option maxRecDepth 100000 in
theorem eCheck_any (n : ByteArray) (a : Value) (l : List Idn.Att) (w : World) (hv : AttsV w w.heap.size a l) (hn : n.size ≤ 1000000000) (hs : ASm l) :
    Calls Tryz.prog 14 #[.agg #[.string n, a]] w fun e w' => e = .returned (.int .i64 (eCheck (L n) l)) ∧ Below w.heap.size w w' := by
  have hV := fun W => nm_valid_any n W hn
  have hC := fun W (hW : Below w.heap.size w W) => attsCheck_any a l W (AttsV.mono (AttsV.keep hv hW) hW.size) hs
  obtain ⟨A, c, rfl, hc⟩ := SlV.shape hv
  have HR : Hid (eCheck (L n) l = if (L n).isEmpty || !validN (L n) then 5 else Idn.aCheck l) := rfl
  have hem : n.toList.isEmpty = (L n).isEmpty := by rw [toList_L]
  generalize eCheck (L n) l = r at *
  generalize Idn.aCheck l = ck at *
  generalize validN (L n) = vn at *
  generalize (L n).isEmpty = em at *
  cases em
  · have hem2 : (!n.toList.isEmpty) = true := by rw [hem]; rfl
    cases vn
    · have HF : Hid (r = 5) := HR.out
      clear HR hC
      go_enter Tryz.func14, Tryz.ntmps14
      go_wp2_with (go_at_call 40; refine (hV _).mono ?_; rintro e w1 ⟨rfl, hb1⟩)
      go_ret
      exact ⟨ret_int (by rw [HF.out]), ((Below.refl _ _).alloc (Nat.le_refl _) _).trans (hb1.mono (by simp))⟩
    · have HF : Hid (r = ck) := HR.out
      clear HR
      go_enter Tryz.func14, Tryz.ntmps14
      go_upto_region 1 with fail
      with_reducible refine gen1 (R := fun W => Code.wp Tryz.prog _ _ _ W) ?_
      intro W hbW hszW hc1 _
      have a0 : W.cell? ⟨w.heap.size, 0, none⟩ = some (.string n) := hc1 0 _ rfl
      have a1 : W.cell? ⟨w.heap.size, 1, none⟩ = some (.slice A l.length c) := hc1 1 _ rfl
      clear hc1 hszW
      go_wp2_with fail
      refine (hV W).mono ?_
      rintro e w1 ⟨rfl, hb1⟩
      replace a1 := cell_later hb1 a1
      have hbw := hbW.trans (hb1.mono hbW.size)
      clear hV
      go_wp2_with fail
      refine (hC w1 hbw).mono ?_
      rintro e w2 ⟨rfl, hb2⟩
      go_wp2
      go_ret
      exact ⟨ret_int (by rw [HF.out]), hbw.trans (hb2.mono hbw.size)⟩
  · have hem2 : (!n.toList.isEmpty) = false := by rw [hem]; rfl
    have HF : Hid (r = 5) := by show _ = _; rw [HR.out]; rfl
    clear HR hC hV
    go_enter Tryz.func14, Tryz.ntmps14
    go_wp2
    go_ret
    exact ⟨ret_int (by rw [HF.out]), (Below.refl _ _).alloc (Nat.le_refl _) _⟩
end Go.Proofs.YtoopoglkeeoamaaGreatDoor
/- entry: normal, twice. -/
namespace Go.Proofs.YtoopoglkeeoamaaGreatDoor
open Go.RowKit Go.Sort
open Idn (L B Bs drop_L take_L size_L)
theorem eValsK_step (s : Idn.Sch) (a : Bs) (l : List Bs) (k : Nat) (hk : k < l.length) (acc : List Bs) (r : List Bs × Int) (h : r = eValsK s a acc (l.drop k)) :
    ((sNorm s a l[k]).2 ≠ 0 → r = ([], (sNorm s a l[k]).2)) ∧ ((sNorm s a l[k]).2 = 0 → r = eValsK s a (acc ++ [(sNorm s a l[k]).1]) (l.drop (k + 1))) := by
  rw [List.drop_eq_getElem_cons hk, eValsK] at h
  exact ⟨fun hn => by rw [h, if_pos (by simpa using hn)], fun hn => by rw [h, if_neg (by simpa using hn)]⟩
set_option maxHeartbeats 1000000 in
set_option maxRecDepth 100000 in
theorem enorm_any (u : Value) (s : Idn.Sch) (a : ByteArray) (v : Value) (l : List Bs) (w : World) (hu : SchV w w.heap.size u s) (hs : SSm s) (hE : Env w) (hU : EnvU w) (hv : StrsV w w.heap.size v l) (ha : a.size ≤ 1000000000) (hl : l.length ≤ 1048600) (hx : ∀ x ∈ l, x.length ≤ 100000000) :
    Calls Tryz.prog 50 #[u, .string a, v] w (RetSE w (eVals s (L a) l)) := by
  have hN := fun W (hW : Below w.heap.size w W) x hx => schNormal_any u s a x W (SchV.mono (SchV.keep hu hW) hW.size) hs (hE.keep hW) (hU.keep hW) ha hx
  obtain ⟨au, bu, rfl, hT, hC⟩ := hu
  obtain ⟨A1, c1, rfl, _⟩ := SlV.shape hT
  obtain ⟨A2, c2, rfl, _⟩ := SlV.shape hC
  obtain ⟨A, c, rfl, hc⟩ := hv.shape
  clear hT hC
  generalize hr : eVals s (L a) l = r
  have HR : Hid (r = eValsK s (L a) [] l) := hr.symm
  clear hr
  go_enter Tryz.func50, Tryz.ntmps50
  go_upto_region 1 with fail
  with_reducible refine gen1 (R := fun W => Code.wp Tryz.prog _ _ _ W) ?_
  intro W0 hbW0 hszW0 hc0 _
  have q0 : W0.cell? ⟨w.heap.size, 0, none⟩ = some (.slice A1 s.types.length c1) := hc0 0 _ rfl
  have q1 : W0.cell? ⟨w.heap.size, 1, none⟩ = some (.slice A2 s.classes.length c2) := hc0 1 _ rfl
  clear hc0 hszW0
  go_wp2_with fail
  go_loopw [8, 15] (fun o i wr => ∃ (k : Nat) (acc : List Bs), k ≤ l.length ∧ i = .int .i64 k ∧ wr.ownsRow W0.heap.size 9 1 o k (acc.map sv) ∧ Below W0.heap.size W0 wr ∧ Hid (r = eValsK s (L a) acc (l.drop k)) ∧ Hid (acc.length = k)) (fun _ i _ => l.length - (intOf i).toNat)
  case atStart => exact ⟨0, [], Nat.zero_le _, rfl, World.ownsRow_nil _ _ _ _, Below.refl _ _, by show _ = _; rw [HR.out]; rfl, rfl⟩
  case round =>
    obtain ⟨k, acc, hk, rfl, hown, hb, hinv, hal⟩ := hrel
    have hbw := hbW0.trans (hb.mono hbW0.size)
    obtain ⟨wo, hwo⟩ : ∃ wo : World, wo = wr := ⟨_, rfl⟩
    subst hwo
    by_cases hlt : k < l.length
    · obtain ⟨b, off, hA, hbl, d0⟩ := StrsV.cell (SlV.keep hv hbw) hlt
      subst hA
      have hltI : (k : Int) < (l.length : Int) := by omega
      have hsz := hx l[k] (List.getElem_mem hlt)
      have hszB : (B l[k]).size ≤ 100000000 := by rw [Idn.size_B]; exact hsz
      have hNk := hN wo hbw (B l[k]) hszB
      rw [Idn.L_B] at hNk
      obtain ⟨t1, t2⟩ := eValsK_step s (L a) l k hlt acc r hinv.out
      have p0 := cell_later hb q0
      have p1 := cell_later hb q1
      generalize sNorm s (L a) l[k] = sn at *
      obtain ⟨sx, se⟩ := sn
      dsimp only at t1 t2 hNk
      clear hinv hN q0 q1
      by_cases he : se = 0
      · subst he
        have HF : Hid (r = eValsK s (L a) (acc ++ [sx]) (l.drop (k + 1))) := t2 rfl
        clear t1 t2
        go_wp2_with fail
        refine hNk.mono ?_
        rintro e w1 ⟨rfl, hb1⟩
        have hown1 := own_below hown hb1
        have hb01 := hb.trans (hb1.mono hb.size)
        clear hNk hown
        go_wp2_with (at_builtin; refine wpList_push w1 rfl _ _ 45 rfl W0.heap.size 9 (.string ⟨#[]⟩) 1 16 Tryz.underlying45 info_str rfl (by decide) _ k _ hown1 rfl [.string (B sx)] rfl rfl (by intro u hu; simp at hu; subst hu; rfl) (by omega) hb01.size ?_ rfl)
        intro v' w2 hown2 _ _ hb2 _
        clear hown1
        go_wp2
        go_roundw
        case rel => exact ⟨k + 1, acc ++ [sx], by omega, by go_num, by rw [List.map_append]; exact hown2, hb01.trans hb2, HF, by show _ = _; rw [List.length_append, hal.out]; rfl⟩
        case measure => simp [intOf]; omega
      · have HF : Hid (r = ([], se)) := t1 he
        have hne : (se != 0) = true := by simpa using he
        clear t1 t2 he
        go_wp2_with fail
        refine hNk.mono ?_
        rintro e w1 ⟨rfl, hb1⟩
        go_wp2
        go_ret2
        exact ⟨_, by rw [HF.out]; rfl, by rw [HF.out]; exact World.ownsRow_nil _ _ _ _, hbw.trans (hb1.mono hbw.size)⟩
    · have hkl : k = l.length := by omega
      have hltI : ¬ (k : Int) < (l.length : Int) := by omega
      have HF : Hid (r = (acc, 0)) := by show _ = _; rw [hinv.out, List.drop_eq_nil_of_le (by omega)]; rfl
      clear hinv hN
      go_wp2
      go_ret2
      exact ⟨_, by rw [HF.out]; rfl, by rw [HF.out]; show _; rw [hal.out]; exact own_base hown (by have := hbW0.size; omega), hbw⟩
theorem dupK_step (l : List Bs) (k : Nat) (hk : k < l.length) (r : Bool) (h : r = dupK (l.take k) (l.drop k)) : ((l.take k).contains l[k] = true → r = true) ∧ ((l.take k).contains l[k] = false → r = dupK (l.take (k + 1)) (l.drop (k + 1))) := by
  rw [List.drop_eq_getElem_cons hk, dupK] at h
  exact ⟨fun hn => by rw [h, hn]; rfl, fun hn => by rw [h, hn, List.take_succ_eq_append_getElem hk]; rfl⟩
theorem zeroBool (w : World) : (zeroValue 4).run Tryz.prog w = .ok (.bool false) w := by kernel_rfl
set_option maxHeartbeats 1000000 in
set_option maxRecDepth 100000 in
theorem etwice_any (v : Value) (l : List Bs) (w : World) (hv : StrsV w w.heap.size v l) (hl : l.length ≤ 1000000000) :
    Calls Tryz.prog 51 #[v] w fun e w' => e = .returned (.bool (dupK [] l)) ∧ Below w.heap.size w w' := by
  obtain ⟨A, c, rfl, hc⟩ := hv.shape
  generalize hr : dupK [] l = r
  have HR := Lib.hid hr
  clear hr
  have hmm := @run_makeMap Tryz.prog
  go_enter Tryz.func51, Tryz.ntmps51
  go_wp2_with fail
  go_loopw [9] (fun i wr => ∃ k : Nat, k ≤ l.length ∧ i = .int .i64 k ∧ MapIs wr w.heap.size (setE (l.take k)) ∧ Below w.heap.size w wr ∧ Hid (r = dupK (l.take k) (l.drop k))) (fun i _ => l.length - (intOf i).toNat)
  case atStart => exact ⟨0, Nat.zero_le _, rfl, MapIs.made w, (Below.refl _ _).alloc (Nat.le_refl _) _, by show _ = _; rw [← HR.out]; simp⟩
  case round =>
    obtain ⟨k, hk, rfl, hm, hb, hinv⟩ := hrel
    by_cases hlt : k < l.length
    · obtain ⟨b, off, hA, hbl, d0⟩ := StrsV.cell (SlV.keep hv hb) hlt
      subst hA
      have hltI : (k : Int) < (l.length : Int) := by omega
      obtain ⟨t1, t2⟩ := dupK_step l k hlt r hinv.out
      obtain ⟨g1, g2⟩ := lk_set l[k] (l.take k)
      clear hinv
      cases hc : (l.take k).contains l[k]
      · have HF : Hid (r = dupK (l.take (k + 1)) (l.drop (k + 1))) := t2 hc
        have hnew := g2 hc
        rw [hc] at g1
        have HN := Lib.hid hnew
        have HG := Lib.hid g1
        clear t1 t2 g1 g2 hc hnew
        go_wp2_with (first | (at_mapUpdate; refine wpList_put _ rfl _ _ _ 115 rfl 9 4 Tryz.underlying9 Tryz.underlying115 w.heap.size rfl hm (B l[k]) rfl (.bool true) rfl HN.out ?_; intro w2 hm2 hbt) | (at_lookup; refine wpList_look1 wr rfl _ _ 115 rfl 9 4 Tryz.underlying9 Tryz.underlying115 (zeroBool _) w.heap.size hm rfl (B l[k]) rfl HG.out ?_))
        have hb2 := hb.trans (hbt.below (Nat.le_refl _) hb.size)
        clear hm
        go_roundw
        case rel =>
          refine ⟨k + 1, by omega, by go_num, ?_, hb2, HF⟩
          rw [List.take_succ_eq_append_getElem hlt]
          unfold setE at hm2 ⊢
          rw [List.map_append]
          exact hm2
        case measure => simp [intOf]; omega
      · have HF : Hid (r = true) := t1 hc
        rw [hc] at g1
        have HG := Lib.hid g1
        clear t1 t2 g1 g2 hc
        go_wp2_with (at_lookup; refine wpList_look1 wr rfl _ _ 115 rfl 9 4 Tryz.underlying9 Tryz.underlying115 (zeroBool _) w.heap.size hm rfl (B l[k]) rfl HG.out ?_)
        go_ret
        exact ⟨ret_bool (by rw [HF.out]), hb⟩
    · have hltI : ¬ (k : Int) < (l.length : Int) := by omega
      have HF : Hid (r = false) := by show _ = _; rw [hinv.out, List.drop_eq_nil_of_le (by omega)]; rfl
      clear hinv
      go_wp2
      go_ret
      exact ⟨ret_bool (by rw [HF.out]), hb⟩
end Go.Proofs.YtoopoglkeeoamaaGreatDoor
/- entry: the order of Normal: slices.SortFunc at attributes, by their names in lower case. -/
namespace Go.Proofs.YtoopoglkeeoamaaGreatDoor
open Go.RowKit Go.Sort
open Idn (L B Bs drop_L take_L size_L)

/-- an owned row of attributes whose values lie where they like -/
def RowV (w : World) (base : Nat) (v : Value) (ps : List (Idn.Att × Value)) : Prop :=
  w.ownsRow base 48 2 v ps.length (rowA ps) ∧ ∀ p ∈ ps, ∃ A c, p.2 = .slice A p.1.vals.length c
theorem fn_enormal1 : FnB 47 := by intro a w; kernel_rfl
set_option maxRecDepth 100000 in
theorem enormal1_any (x y : Bs) (A A' : Option Addr) (n c n' c' : Nat) (w : World) (hx : x.length ≤ 1000000000) (hy : y.length ≤ 1000000000) : Calls Tryz.prog 47 #[.agg #[.string (B x), .slice A n c], .agg #[.string (B y), .slice A' n' c']] w fun e w' => e = .returned (.int .i64 (cmpB (Idn.lower x) (Idn.lower y))) ∧ ∃ q os', w' = grow (w.drewN q) os' := by
  have hxB : (B x).size ≤ 1000000000000 := by rw [Idn.size_B]; omega
  have hyB : (B y).size ≤ 1000000000000 := by rw [Idn.size_B]; omega
  have hL1 := fun W => lowerD_any (B x) W hxB
  have hL2 := fun W => lowerD_any (B y) W hyB
  have hC := fun W => Tryz.strings_Compare (B (Idn.lower x)) (B (Idn.lower y)) W
  have hcmp : Lib.compareBytes (B (Idn.lower x)).data.toList (B (Idn.lower y)).data.toList = cmpB (Idn.lower x) (Idn.lower y) := (cmpB_eq _ _).symm
  rw [hcmp] at hC
  rw [Idn.L_B] at hL1 hL2
  generalize cmpB (Idn.lower x) (Idn.lower y) = d0 at *
  clear hcmp
  go_enter Tryz.func47, Tryz.ntmps47
  go_upto_region 1 with fail
  with_reducible refine gen2D (R := fun W => Code.wp Tryz.prog _ _ _ W) ?_
  intro W hbW hdr hc1 hc2
  have x0 : W.cell? ⟨w.heap.size, 0, none⟩ = some (.string (B x)) := hc1 0 _ rfl
  have y0 : W.cell? ⟨w.heap.size + 1, 0, none⟩ = some (.string (B y)) := hc2 0 _ rfl
  have k0 := cell_drewn x0
  have k1 := cell_drewn y0
  have q1 := fun d os => calls_drewn (hL1 (grow (W.drewN d) os))
  have q2 := fun d os => calls_drewn (hL2 (grow (W.drewN d) os))
  have q3 : ∀ d os, Calls Tryz.prog 48 #[.string (B (Idn.lower x)), .string (B (Idn.lower y))] (grow (W.drewN d) os) fun e w'' => e = .returned (.int .i64 d0) ∧ ∃ p : Regrown, w'' = grow (W.drewN p.d) p.os := fun d os => (hC (grow (W.drewN d) os)).mono fun _ _ ⟨a, b⟩ => ⟨a, ⟨d, os⟩, b⟩
  have HD := Lib.hid hdr
  clear hdr hc1 hc2 x0 y0 hL1 hL2 hC
  generalize B (Idn.lower x) = lx at *
  generalize B (Idn.lower y) = ly at *
  refine wp_region_quiet_drew (by kernel_rfl) (by kernel_rfl) ?_
  repeat (first | go_big_quiet_step ((first | (go_at_call 49; first | with_reducible exact q1 _ _ | with_reducible exact q2 _ _) | (go_at_call 48; exact q3 _ _))) | quiet_step ((first | (go_at_call 49; first | with_reducible exact q1 _ _ | with_reducible exact q2 _ _) | (go_at_call 48; exact q3 _ _))))
  refine wpQuiet_nil ?_
  intro _ hw'
  obtain ⟨⟨dq, osq⟩, hw''⟩ := hw'
  subst hw''
  have hb6 := below_drewn W dq osq
  have hd6 : w.drawn ≤ (grow (W.drewN dq) osq).drawn := by rw [HD.out]; exact Nat.le_add_right _ _
  have HF := grown_form (hbW.trans (hb6.mono hbW.size)) hd6
  go_wp2
  go_ret
  exact ⟨rfl, HF⟩
section
variable {qs : List (Idn.Att × Value)}
def cfE (x y : {p : Idn.Att × Value // p ∈ qs}) : Int := cmpB (Idn.lower x.1.1.name) (Idn.lower y.1.1.name)
theorem ltE (x y : {p : Idn.Att × Value // p ∈ qs}) : ltOf cfE x y = decide (Idn.lower x.1.1.name < Idn.lower y.1.1.name) := by
  unfold ltOf cfE cmpB
  by_cases h : Idn.lower x.1.1.name < Idn.lower y.1.1.name
  · simp [h]
  · by_cases h2 : Idn.lower y.1.1.name < Idn.lower x.1.1.name <;> simp [h, h2]
theorem swoE : SWO (ltOf (cfE (qs := qs))) where
  irrefl x := by rw [ltE]; simp
  trans x y z h1 h2 := by
    rw [ltE] at *
    simp only [decide_eq_true_eq] at *
    exact List.lt_trans h1 h2
  ntrans x y z h1 h2 := by
    rw [ltE] at *
    simp only [decide_eq_false_iff_not] at *
    rw [List.not_lt] at *
    exact List.le_trans h2 h1
end
theorem sortE_any (v : Value) (base : Nat) (qs : List (Idn.Att × Value)) (w : World) (hown : RowV w base v qs) (hbase : base ≤ w.heap.size) (hl : qs.length ≤ 1000) (hsz0 : ∀ p ∈ qs, p.1.name.length ≤ 1000000000) (hnd : ((qs.map (·.1)).map fun a => Idn.lower a.name).Nodup) :
    Calls Tryz.prog 46 #[v, .func (.func 47) #[] #[]] w fun e w' => e = .returned (.tuple #[]) ∧ ∃ qs', RowV w' base v qs' ∧ qs'.Perm qs ∧ qs'.map (·.1) = byLow (qs.map (·.1)) ∧ Below base w w' := by
  by_cases h0 : qs = []
  · subst h0
    obtain ⟨A, c, hv⟩ := own_shape hown.1
    have h := AnyF.slices_SortFunc_none Tryz.sortA A c (.func (.func 47) #[] #[]) w
    change Calls Tryz.prog 46 _ _ _ at h
    rw [hv]
    refine h.mono ?_
    rintro e w' ⟨rfl, rfl⟩
    exact ⟨rfl, [], by rw [← hv]; exact hown, List.Perm.refl _, by simp [byLow], Below.refl _ _⟩
  · have hpos : 0 < qs.length := List.length_pos_iff.2 h0
    rcases hown.1.2 with ⟨_, hn0⟩ | ⟨g, cap, cur, hu, hbg, hbk, h1, h2, h3, h4⟩
    · omega
    letI : Inhabited {p : Idn.Att × Value // p ∈ qs} := ⟨⟨qs[0], List.getElem_mem hpos⟩⟩
    have hsz : qs.attach.toArray.size = qs.length := by simp
    have hfl := flatA (qs := qs) qs.attach
    rw [List.attach_map_subtype_val] at hfl
    have hH : HoldsK encA 2 w g 0 qs.attach.toArray := fun j hj => by
      rw [size_flatK, hsz] at hj
      have hjs : j < (Go.Sort.flatK encA 2 qs.attach.toArray).size := by rw [size_flatK, hsz]; exact hj
      refine ⟨?_, Lib.frozen_of_heap hbk _⟩
      rw [Nat.zero_add, cell_of_row w g j _ _ (0, 0) hbk, getElem!_pos _ j hjs, ← Array.getElem?_toList]
      have := congrArg (·[j]?) h4
      simp only [List.getElem?_take_of_lt hj] at this
      rw [this, ← hfl, Array.getElem?_toList, Array.getElem?_eq_getElem hjs]
      rfl
    have hcmp : CmpLays Tryz.prog 47 #[] encA 2 (cfE (qs := qs)) g 0 qs.attach.toArray.size w := fun m os dk _ x y => by
      obtain ⟨A1, c1, e1⟩ := hown.2 _ x.2
      obtain ⟨A2, c2, e2⟩ := hown.2 _ y.2
      show Calls Tryz.prog _ #[.agg #[sv x.1.1.name, x.1.2], .agg #[sv y.1.1.name, y.1.2]] _ _
      rw [e1, e2]
      exact enormal1_any _ _ _ _ _ _ _ _ _ (hsz0 _ x.2) (hsz0 _ y.2)
    have hT : ∀ x y : {p : Idn.Att × Value // p ∈ qs}, ltOf cfE x y = false → ltOf cfE y x = false → x = y := fun x y a b => by
      rw [ltE] at a b
      simp only [decide_eq_false_iff_not] at a b
      rw [List.not_lt] at a b
      have e : Idn.lower x.1.1.name = Idn.lower y.1.1.name := List.le_antisymm b a
      rw [List.map_map] at hnd
      obtain ⟨i, hi, hxi⟩ := List.getElem_of_mem x.2
      obtain ⟨j, hj, hyj⟩ := List.getElem_of_mem y.2
      have hij : i = j := by
        have hi' : i < (qs.map ((fun a : Idn.Att => Idn.lower a.name) ∘ (·.1))).length := by simpa using hi
        have hj' : j < (qs.map ((fun a : Idn.Att => Idn.lower a.name) ∘ (·.1))).length := by simpa using hj
        have hpw := List.pairwise_iff_getElem.1 hnd
        rcases Nat.lt_trichotomy i j with hlt | hlt | hlt
        · exact absurd (by simp [hxi, hyj, e]) (hpw i j hi' hj' hlt)
        · exact hlt
        · exact absurd (by simp [hxi, hyj, e]) (hpw j i hj' hi' hlt)
      subst hij
      exact Subtype.ext (hxi.symm.trans hyj)
    have h := AnyQ.slices_SortFunc_total Tryz.sortA 2 isAggA sizeA encA (fun _ => rfl) (fun x v hv => by
      obtain ⟨A1, c1, e1⟩ := hown.2 _ x.2
      unfold encA at hv
      rw [e1] at hv
      simp at hv
      rcases hv with rfl | rfl <;> rfl) cfE swoE 47 #[] g 0 cap qs.attach.toArray w fn_enormal1 hcmp hH (Array.getElem?_eq_some_iff.1 hbk).1 (by rw [hsz]; omega) hT
    change Calls Tryz.prog 46 _ _ _ at h
    rw [hsz] at h
    rw [hu]
    refine h.mono ?_
    rintro e w' ⟨rfl, n, os, rfl⟩
    clear h
    generalize hms : (qs.attach.toArray.toList.mergeSort fun x y => !ltOf cfE y x) = ms
    have hperm : (ms.map (·.1)).Perm qs := by
      rw [← hms]
      have := (List.mergeSort_perm qs.attach fun x y => !ltOf cfE y x).map Subtype.val
      rwa [List.attach_map_subtype_val] at this
    have hml : ms.length = qs.length := by simpa using hperm.length_eq
    have hg : w.grownBy (sortWorldK encA 2 w g 0 n ms.toArray os) (some g) := grownBy_sortedV _
    have hfm := flatA (qs := qs) ms
    have hFs : (Go.Sort.flatK encA 2 ms.toArray).size = qs.length * 2 := by simp [hml]
    refine ⟨rfl, ms.map (·.1), ⟨?_, fun p hp => hown.2 p (hperm.mem_iff.1 hp)⟩, hperm, ?_, (Below.refl base w).grown hg hbase (fun k hk => by injection hk with hk; omega)⟩
    · rw [List.length_map, hml]
      refine ⟨by rw [rowA_len, List.length_map, hml], .inr ⟨g, cap, _, rfl, hbg, heap_sortedV _ hbk, h1, h2, by simp [putCells, h3], ?_⟩⟩
      rw [← hfm, ← hFs]
      exact take_putCellsV cur _ (by rw [hFs, h3]; exact Nat.mul_le_mul_right 2 h1)
    · rw [← hms, List.map_map]
      unfold byLow
      rw [List.map_mergeSort (s := leLow) (fun a _ b _ => by
        rw [ltE]
        unfold leLow
        rw [Bool.eq_iff_iff]
        simp [← List.not_lt])]
      congr 1
      have := congrArg (List.map (·.1)) (List.attach_map_subtype_val qs)
      rw [List.map_map] at this
      simpa using this
end Go.Proofs.YtoopoglkeeoamaaGreatDoor
/- law07: light, subset, raised. -/
namespace Go.Proofs.YtoopoglkeeoamaaGreatDoor
open Go.RowKit Go.Sort
open Idn (L B Bs drop_L take_L size_L)
end Go.Proofs.YtoopoglkeeoamaaGreatDoor
/- law07: raised. -/
namespace Go.Proofs.YtoopoglkeeoamaaGreatDoor
open Go.RowKit Go.Sort
open Idn (L B Bs drop_L take_L size_L)
theorem run_str {P : Program} {w : World} (src dst e : TypeId) (hs : P.underlying src = some (.slice e)) (hd : P.underlying dst = some .string) (he : P.underlying e = some (.int .u8))
    (base : Nat) (v : Value) (l : Bs) (hown : w.ownsRow base e 1 v l.length (l.map bc)) : (convert src dst v).run P w = .ok (.string (B l)) w := by
  rcases hown.2 with ⟨rfl, hn⟩ | ⟨g, cap, cur, rfl, _, hh, _, _, _, htake⟩
  · have : l = [] := List.eq_nil_of_length_eq_zero hn
    subst this
    exact run_convert_bytes_nil w src e hs he 0 0 dst hd
  · have h := run_convert_bytes_arg (P := P) w src e hs he g 0 l.length cap (l.map fun x => (x.toNat : Int)) (by simp) (fun i hi => by
      have hc := hown.cellAt i (by simpa using hi)
      rw [Nat.zero_add, hc]
      simp [bc, hi]) dst hd
    rw [h]
    congr 3
    show (⟨_⟩ : ByteArray) = _
    simp [B, Function.comp_def]
theorem PairAt.grown {w w' : World} {p : Nat} {a b : Value} {row : Option Nat} (h : PairAt w p a b) (hg : w.grownBy w' row) (hne : some p ≠ row) (hs : w.heap.size ≤ w'.heap.size) : PairAt w' p a b := by
  obtain ⟨⟨h0, h1⟩, ⟨g0, g1⟩, hl⟩ := h
  exact ⟨⟨grown_cell hg h0 hne, grown_cell hg h1 hne⟩, ⟨grown_frozen hg hl g0 hne, grown_frozen hg hl g1 hne⟩, Nat.lt_of_lt_of_le hl hs⟩
end Go.Proofs.YtoopoglkeeoamaaGreatDoor
/- entry: missing. -/
namespace Go.Proofs.YtoopoglkeeoamaaGreatDoor
open Go.RowKit Go.Sort
open Idn (L B Bs drop_L take_L size_L)
set_option maxHeartbeats 1000000 in
set_option maxRecDepth 100000 in
theorem missing_any (v u : Value) (a b : List Bs) (w : World) (hv : StrsV w w.heap.size v a) (hu : StrsV w w.heap.size u b) (ha : a.length ≤ 1000000) (hb9 : b.length ≤ 1000000) :
    Calls Tryz.prog 126 #[v, u] w (RetS w (minus a b)) := by
  have hCt := fun W (hW : Below w.heap.size w W) x => contains_any u b x W (SlV.mono (SlV.keep hu hW) hW.size) (by omega)
  obtain ⟨A, c, rfl, hc⟩ := hv.shape
  obtain ⟨A2, c2, rfl, hc2⟩ := hu.shape
  generalize hr : minus a b = r
  have HR : Hid (r = a.filter fun x => !b.contains x) := hr.symm
  clear hr
  go_enter Tryz.func126, Tryz.ntmps126
  go_wp2_with fail
  go_loopw [5, 10] (fun o i wr => ∃ (k : Nat) (acc : List Bs), k ≤ a.length ∧ i = .int .i64 k ∧ wr.ownsRow w.heap.size 9 1 o acc.length (acc.map sv) ∧ Below w.heap.size w wr ∧ Hid (acc = (a.take k).filter fun x => !b.contains x) ∧ acc.length ≤ k) (fun _ i _ => a.length - (intOf i).toNat)
  case atStart => exact ⟨0, [], Nat.zero_le _, rfl, World.ownsRow_nil _ _ _ _, Below.refl _ _, rfl, Nat.le_refl _⟩
  case round =>
    obtain ⟨k, acc, hk, rfl, hown, hb, hinv, hal⟩ := hrel
    obtain ⟨wo, hwo⟩ : ∃ wo : World, wo = wr := ⟨_, rfl⟩
    subst hwo
    by_cases hlt : k < a.length
    · obtain ⟨bb, off, hA, hbl, d0⟩ := StrsV.cell (SlV.keep hv hb) hlt
      subst hA
      have hltI : (k : Int) < (a.length : Int) := by omega
      have hC := hCt wo hb (B a[k])
      rw [Idn.L_B] at hC
      have hstep : (a.take (k + 1)).filter (fun x => !b.contains x) = (a.take k).filter (fun x => !b.contains x) ++ if b.contains a[k] then [] else [a[k]] := by
        rw [List.take_succ_eq_append_getElem hlt, List.filter_append]
        congr 1
        cases hh : b.contains a[k]
        · rw [List.filter_cons_of_pos (by rw [hh]; rfl)]; rfl
        · rw [List.filter_cons_of_neg (by rw [hh]; decide)]; rfl
      cases hc0 : b.contains a[k]
      · rw [hc0] at hC hstep
        have HF : Hid (acc ++ [a[k]] = (a.take (k + 1)).filter fun x => !b.contains x) := by show _ = _; rw [hstep, hinv.out]; rfl
        clear hstep hc0 hinv hCt
        go_wp2_with fail
        refine hC.mono ?_
        rintro e w2 ⟨rfl, rfl⟩
        clear hC
        go_wp2_with (at_builtin; refine wpList_push wo rfl _ _ 45 rfl w.heap.size 9 (.string ⟨#[]⟩) 1 16 Tryz.underlying45 info_str rfl (by decide) _ acc.length _ hown rfl [.string (B a[k])] rfl rfl (by intro u hu; simp at hu; subst hu; rfl) (by omega) hb.size ?_ rfl)
        intro v' w2 hown2 _ _ hb2 _
        clear hown
        go_wp2
        go_roundw
        case rel => exact ⟨k + 1, acc ++ [a[k]], by omega, by go_num, by rw [List.length_append, List.map_append]; exact hown2, hb.trans hb2, HF, by rw [List.length_append]; simp; omega⟩
        case measure => simp [intOf]; omega
      · rw [hc0] at hC hstep
        have HF : Hid (acc = (a.take (k + 1)).filter fun x => !b.contains x) := by show _ = _; rw [hstep, hinv.out]; simp
        clear hstep hc0 hinv hCt
        go_wp2_with fail
        refine hC.mono ?_
        rintro e w2 ⟨rfl, rfl⟩
        go_wp2
        go_roundw
        case rel => exact ⟨k + 1, acc, by omega, by go_num, hown, hb, HF, by omega⟩
        case measure => simp [intOf]; omega
    · have hltI : ¬ (k : Int) < (a.length : Int) := by omega
      have HF : Hid (r = acc) := by show _ = _; rw [HR.out, hinv.out, List.take_of_length_le (by omega)]
      clear hinv hCt HR
      go_wp2
      go_ret
      exact ⟨_, rfl, by rw [HF.out]; exact hown, hb⟩
end Go.Proofs.YtoopoglkeeoamaaGreatDoor
