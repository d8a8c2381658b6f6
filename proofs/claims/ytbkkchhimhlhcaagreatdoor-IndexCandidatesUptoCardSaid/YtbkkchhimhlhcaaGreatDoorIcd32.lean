/- Part 32 of the proof that identitylaw11.IndexCandidates returns true for every data that it may be called with: proof: the package variables hold what the program lays; nothing else is asked. -/
import Derived.Test.YtbkkchhimhlhcaaGreatDoorIcd31
set_option linter.unusedVariables false
set_option linter.unusedSimpArgs false
set_option maxRecDepth 100000
set_option maxHeartbeats 16000000
/- Plain laws: the differences of two entries by the reference are the layer's. -/
namespace Go.Proofs.YtbkkchhimhlhcaaGreatDoor
open Go.RowKit Go.Sort
open Idn (L B Bs)
theorem rSorted_pw (l : List Idn.Att) : ((Idn.rSorted l).map (·.name)).Pairwise (· < ·) := by
 have : (Idn.rSorted l).map (·.name) = Idn.insAll (Idn.lows l) := by
  unfold Idn.rSorted
  rw [List.map_map]
  exact List.map_id' _
 rw [this]
 exact Idn.insAll_lt _
theorem insAll_ne {v : List Bs} (h : v ≠ []) : (Idn.insAll v).length ≠ 0 := by
 intro e
 have e2 := List.eq_nil_of_length_eq_zero e
 cases v with
 | nil => exact h rfl
 | cons x v =>
  have := (Idn.insAll_mem (x :: v) x).2 List.mem_cons_self
  rw [e2] at this; cases this
theorem rSorted_full (l : List Idn.Att) : ∀ a ∈ Idn.rSorted l, a.vals.length ≠ 0 := by
 intro a ha
 unfold Idn.rSorted at ha
 obtain ⟨m, hm, rfl⟩ := List.mem_map.1 ha
 rw [Idn.insAll_mem, Idn.mem_lows] at hm
 exact insAll_ne hm
end Go.Proofs.YtbkkchhimhlhcaaGreatDoor
/- Plain law of EntryStable. -/
namespace Go.Proofs.YtbkkchhimhlhcaaGreatDoor
open Go.RowKit Go.Sort
open Idn (L B Bs)
def Nor (s : Idn.Sch) (n : Bs) (l : List Bs) : Prop := ∀ x ∈ l, sNorm s n x = (x, 0)
def QN (s : Idn.Sch) (l : List Idn.Att) : Prop := Idn.rSorted l = l ∧ ∀ a ∈ l, Nor s a.name a.vals
theorem Nor.low {s : Idn.Sch} {n : Bs} {l : List Bs} (h : Nor s n l) : Nor s (Idn.lower n) l := fun x hx => by rw [sNorm_low]; exact h x hx
theorem Nor.same {s : Idn.Sch} {n m : Bs} {l : List Bs} (h : Nor s n l) (e : Idn.lower n = Idn.lower m) : Nor s m l := fun x hx => by rw [← sNorm_low, ← e, sNorm_low]; exact h x hx
theorem mem_valsOf {l : List Idn.Att} {n x : Bs} : x ∈ Idn.valsOf l n ↔ ∃ a ∈ l, Idn.lower a.name = n ∧ x ∈ a.vals := by
 unfold Idn.valsOf
 rw [List.mem_flatMap]
 constructor
 ·rintro ⟨a, ha, hx⟩
  rw [List.mem_filter, decide_eq_true_eq] at ha
  exact ⟨a, ha.1, ha.2, hx⟩
 ·rintro ⟨a, h1, h2, hx⟩
  exact ⟨a, List.mem_filter.2 ⟨h1, by rw [decide_eq_true_eq]; exact h2⟩, hx⟩
theorem valsOf_nor {s : Idn.Sch} {l : List Idn.Att} (h : ∀ a ∈ l, Nor s a.name a.vals) (n : Bs) : Nor s n (Idn.valsOf l (Idn.lower n)) := fun x hx => by
 obtain ⟨a, ha, e, hx⟩ := mem_valsOf.1 hx
 exact Nor.same (h a ha) e x hx
theorem rSorted_nor {s : Idn.Sch} {l : List Idn.Att} (h : ∀ a ∈ l, Nor s a.name a.vals) : ∀ a ∈ Idn.rSorted l, Nor s a.name a.vals := by
 intro a ha x hx
 have hl := Idn.rSorted_name ha
 unfold Idn.rSorted at ha
 obtain ⟨m, hm, rfl⟩ := List.mem_map.1 ha
 have hx : x ∈ Idn.insAll (Idn.valsOf l m) := hx
 rw [Idn.insAll_mem] at hx
 have hl : Idn.lower m = m := hl
 rw [← hl] at hx
 exact valsOf_nor h m x hx
theorem rSorted_idem (l : List Idn.Att) : Idn.rSorted (Idn.rSorted l) = Idn.rSorted l := by
 have e1 : Idn.insAll (Idn.lows (Idn.rSorted l)) = Idn.insAll (Idn.lows l) := by
  refine Idn.uniq _ _ (Idn.insAll_lt _) (Idn.insAll_lt _) fun x => ?_
  rw [Idn.insAll_mem]
  have : Idn.lows (Idn.rSorted l) = Idn.insAll (Idn.lows l) := by
   rw [Idn.lows_all (rSorted_full l)]
   have h2 : ∀ a ∈ Idn.rSorted l, Idn.lower a.name = a.name := fun a ha => Idn.rSorted_name ha
   rw [List.map_congr_left h2]
   unfold Idn.rSorted
   rw [List.map_map]
   exact List.map_id' _
  rw [this]
 have e2 : ∀ n ∈ Idn.insAll (Idn.lows l), Idn.rOne (Idn.rSorted l) n = Idn.rOne l n := fun n hn => by
  have hn : Idn.lower n = n := by
   rw [Idn.insAll_mem] at hn
   unfold Idn.lows at hn
   obtain ⟨b, _, rfl⟩ := List.mem_map.1 hn
   exact Idn.lower_lower _
  have h := valsOf_sorted l n
  rw [hn] at h
  unfold Idn.rOne
  rw [h, insAll_idem]
 rw [show Idn.rSorted (Idn.rSorted l) = (Idn.insAll (Idn.lows (Idn.rSorted l))).map (Idn.rOne (Idn.rSorted l)) from rfl, e1, List.map_congr_left e2]
 rfl
theorem QN.sorted {s : Idn.Sch} {l : List Idn.Att} (h : ∀ a ∈ l, Nor s a.name a.vals) : QN s (Idn.rSorted l) := ⟨rSorted_idem l, rSorted_nor h⟩
theorem QN.full {s : Idn.Sch} {l : List Idn.Att} (h : QN s l) : ∀ a ∈ l, a.vals.length ≠ 0 := fun a ha => rSorted_full l a (h.1.symm ▸ ha)
theorem QN.name {s : Idn.Sch} {l : List Idn.Att} (h : QN s l) : ∀ a ∈ l, Idn.lower a.name = a.name := fun a ha => Idn.rSorted_name (l := l) (h.1.symm ▸ ha)
theorem QN.set {s : Idn.Sch} {l : List Idn.Att} (h : QN s l) {n : Bs} {v : List Bs} (hv : Nor s n v) : QN s (aSet (Idn.rSorted l) n v) := by
 unfold aSet
 refine QN.sorted fun a ha => ?_
 rcases List.mem_append.1 ha with ha | ha
 ·have := (List.mem_filter.1 ha).1
  rw [h.1] at this
  exact h.2 a this
 ·rw [List.mem_singleton] at ha
  subst ha
  exact hv.low
end Go.Proofs.YtbkkchhimhlhcaaGreatDoor
/- Plain law of EntryTurns. -/
namespace Go.Proofs.YtbkkchhimhlhcaaGreatDoor
open Go.RowKit Go.Sort
open Idn (L B Bs)
theorem rSorted_ext {S T : List Idn.Att} (h : ∀ m, rGet S m = rGet T m) : Idn.rSorted S = Idn.rSorted T := by
 have hv : ∀ m, Idn.lower m = m → Idn.insAll (Idn.valsOf S m) = Idn.insAll (Idn.valsOf T m) := fun m hm => by
  have := h m
  rw [rGet_law, rGet_law, hm] at this
  exact this
 have low : ∀ (l : List Idn.Att) m, m ∈ Idn.lows l → Idn.lower m = m := fun l m hm => by
  unfold Idn.lows at hm
  obtain ⟨a, _, rfl⟩ := List.mem_map.1 hm
  exact Idn.lower_lower _
 have ne : ∀ v : List Bs, v ≠ [] ↔ Idn.insAll v ≠ [] := fun v => by
  constructor
  ·intro h e; exact insAll_ne h (by rw [e]; rfl)
  ·intro h e; exact h (by rw [e]; rfl)
 have hmem : ∀ m, m ∈ Idn.lows S ↔ m ∈ Idn.lows T := fun m => by
  constructor
  ·intro hm
   have hl := low S m hm
   rw [Idn.mem_lows, ne, ← hv m hl, ← ne, ← Idn.mem_lows]; exact hm
  ·intro hm
   have hl := low T m hm
   rw [Idn.mem_lows, ne, hv m hl, ← ne, ← Idn.mem_lows]; exact hm
 have e1 : Idn.insAll (Idn.lows S) = Idn.insAll (Idn.lows T) := Idn.uniq _ _ (Idn.insAll_lt _) (Idn.insAll_lt _) fun x => by rw [Idn.insAll_mem, Idn.insAll_mem]; exact hmem x
 unfold Idn.rSorted
 rw [e1]
 refine List.map_congr_left fun m hm => ?_
 rw [Idn.insAll_mem] at hm
 unfold Idn.rOne
 rw [hv m (low T m hm)]
theorem QN.ext {s : Idn.Sch} {S T : List Idn.Att} (h1 : QN s S) (h2 : QN s T) (h : ∀ m, rGet S m = rGet T m) : S = T := by
 rw [← h1.1, ← h2.1]; exact rSorted_ext h
structure Turned (s : Idn.Sch) (S : List Idn.Att) (n : Bs) (v : List Bs) (S' : List Idn.Att) : Prop where
 q : QN s S'
 g : ∀ m, Idn.lower m = m → rGet S' m = if m = n then v else rGet S m
theorem Turned.trans {s : Idn.Sch} {S S' S'' : List Idn.Att} {n : Bs} {v v' : List Bs} (h : Turned s S n v S') (h' : Turned s S' n v' S'') : Turned s S n v' S'' :=
 ⟨h'.q, fun m hm => by
  rw [h'.g m hm]
  split
  ·rfl
  ·rename_i e; rw [h.g m hm, if_neg e]⟩
section
variable {s : Idn.Sch} {S : List Idn.Att} {n : Bs} {old new : List Bs}
end
end Go.Proofs.YtbkkchhimhlhcaaGreatDoor
/- The values of the small case of identitylaw08, reckoned. -/
namespace Go.Proofs.YtbkkchhimhlhcaaGreatDoor
open Go.RowKit Go.Sort
open Idn (L B Bs)
namespace E8
def personN : Bs := [112, 101, 114, 115, 111, 110]
def cnN : Bs := [99, 110]
def snN : Bs := [115, 110]
def numN : Bs := [110, 117, 109]
def smallS : Idn.Sch := ⟨[⟨Idn.mainN, 1, false⟩, ⟨cnN, 1, false⟩, ⟨snN, 1, false⟩, ⟨numN, 3, false⟩], [⟨personN, [], [Idn.mainN, cnN], [snN, numN]⟩]⟩
def annN : Bs := [99, 110, 61, 97, 110, 110]
def CNN : Bs := [67, 78, 61, 65, 110, 110]
def ClassN : Bs := [67, 108, 97, 115, 115]
def rawL : List Idn.Att := [⟨ClassN, [personN]⟩, ⟨cnN, [[65, 110, 110]]⟩, ⟨numN, [[55]]⟩]
def midL : List Idn.Att := [⟨ClassN, [personN]⟩, ⟨cnN, [[97, 110, 110]]⟩, ⟨numN, [[55]]⟩]
def norL : List Idn.Att := [⟨Idn.mainN, [personN]⟩, ⟨cnN, [[97, 110, 110]]⟩, ⟨numN, [[55]]⟩]
theorem ev_check : Idn.sCheck smallS = 0 := by kernel_rfl
theorem ev_sound : sound smallS = smallS := by rw [sound, if_pos ev_check]
theorem small_ssm : SSm smallS := by unfold SSm TSm CSm Sm smallS; decide
theorem ev_c1 : eCheck annN [] = 0 := by kernel_rfl
theorem ev_c2 : eCheck [] [] = 5 := by kernel_rfl
theorem srt12 (a b : Bs) (h : decide (a ≤ b) = true) : Idn.srt [a, b] = [a, b] := by
 unfold Idn.srt
 simp [List.mergeSort, List.MergeSort.Internal.splitInTwo, List.merge, h, -decide_eq_true_eq]
theorem mrg3 {a b c : Idn.Att} {le : Idn.Att → Idn.Att → Bool} (h1 : le a b = true) (h2 : le b c = true) (h3 : le a c = true) : [a, b, c].mergeSort le = [a, b, c] := by
 simp [List.mergeSort, List.MergeSort.Internal.splitInTwo, List.merge, h1, h2, h3]
theorem raw_low : byLow rawL = rawL := by unfold byLow rawL; exact mrg3 (by decide) (by decide) (by decide)
theorem nor_low : byLow norL = norL := by unfold byLow norL; exact mrg3 (by decide) (by decide) (by decide)
theorem mid_srt : Idn.aSorted midL = norL := by
 have h : (Idn.grp [] midL).map Idn.normA = norL := by kernel_rfl
 unfold Idn.aSorted
 rw [h]; unfold norL; exact mrg3 (by decide) (by decide) (by decide)
theorem nor_srt : Idn.aSorted norL = norL := by
 have h : (Idn.grp [] norL).map Idn.normA = norL := by kernel_rfl
 unfold Idn.aSorted
 rw [h]; unfold norL; exact mrg3 (by decide) (by decide) (by decide)
theorem cmpM : Lib.compact [Idn.mainN, cnN] = [Idn.mainN, cnN] := by kernel_rfl
theorem cmp4 : Lib.compact [Idn.mainN, cnN, numN, snN] = [Idn.mainN, cnN, numN, snN] := by kernel_rfl
theorem ev_must : mustL smallS personN = [Idn.mainN, cnN] := by
 have h : (((Idn.lin smallS personN).filterMap (smallS.classes[·]?)).flatMap (·.must)).map Idn.lower = [Idn.mainN, cnN] := by kernel_rfl
 unfold mustL merged
 rw [h]
 have e : sorted [Idn.mainN, cnN] = [Idn.mainN, cnN] := srt12 _ _ (by decide)
 rw [e, cmpM]
theorem srt4 : sorted [Idn.mainN, cnN, snN, numN] = [Idn.mainN, cnN, numN, snN] := by
 unfold sorted
 have e1 : decide (Idn.mainN ≤ cnN) = true := by decide
 have e2 : decide (snN ≤ numN) = false := by decide
 have e3 : decide (Idn.mainN ≤ numN) = true := by decide
 have e4 : decide (cnN ≤ numN) = true := by decide
 simp [List.mergeSort, List.MergeSort.Internal.splitInTwo, List.merge, e1, e2, e3, e4, -decide_eq_true_eq, -decide_eq_false_iff_not]
theorem ev_may : mayL smallS personN = [Idn.mainN, cnN, numN, snN] := by
 have h : (mustL smallS personN ++ ((Idn.lin smallS personN).filterMap (smallS.classes[·]?)).flatMap (·.may)).map Idn.lower = [Idn.mainN, cnN, snN, numN] := by
  rw [ev_must]; kernel_rfl
 unfold mayL merged
 rw [h, srt4, cmp4]
theorem ev_cl : classedB smallS [Idn.mainN, cnN, numN] [personN] = true := by
 have h0 : Idn.fold personN = personN := by kernel_rfl
 have h1 : clKey smallS personN = true := by kernel_rfl
 unfold classedB clsGo clsGo
 rw [h0, h1, ev_must, ev_may]
 decide
theorem ev_v1 : sValid smallS norL = 0 := by
 have a : Idn.aCheck norL = 0 := by kernel_rfl
 have g : vGo smallS norL = 0 := by kernel_rfl
 have n : namesL norL = [Idn.mainN, cnN, numN] := by unfold namesL; rw [nor_srt]; rfl
 have c : getL norL Idn.mainN = [personN] := by unfold getL; rw [nor_srt]; kernel_rfl
 unfold sValid
 rw [a, ev_sound, g, n, c, ev_cl]
 rfl
theorem ev_raw : eAttsK smallS [] rawL = (midL, 0) := by
 unfold eAttsK eAtt eVals eValsK sNorm
 rw [ev_sound]
 kernel_rfl
theorem ev_nor : eAttsK smallS [] norL = (norL, 0) := by
 unfold eAttsK eAtt eVals eValsK sNorm
 rw [ev_sound]
 kernel_rfl
theorem ev_n1 : eNormal smallS CNN rawL = ((annN, norL), 0) := by
 have c : Idn.cleanN CNN = (annN, 0) := by kernel_rfl
 have a : Idn.aCheck rawL = 0 := by kernel_rfl
 unfold eNormal eOut
 rw [c, a, raw_low, ev_raw, mid_srt, ev_v1]
 rfl
theorem ev_n2 : eNormal smallS annN norL = ((annN, norL), 0) := by
 have c : Idn.cleanN annN = (annN, 0) := by kernel_rfl
 have a : Idn.aCheck norL = 0 := by kernel_rfl
 unfold eNormal eOut
 rw [c, a, nor_low, ev_nor, nor_srt, ev_v1]
 rfl
end E8
end Go.Proofs.YtbkkchhimhlhcaaGreatDoor
/- Plain laws of filters: induction, lists of kids, negations moved inward. -/
namespace Go.Proofs.YtbkkchhimhlhcaaGreatDoor
open Go.RowKit Go.Sort
open Idn (L B Bs)
theorem fSize_mem {f : Flt} : ∀ {l : List Flt}, f ∈ l → fSize f ≤ fSizes l
 | g :: l, h => by
  rw [fSizes]
  rcases List.mem_cons.1 h with rfl | h
  ·omega
  ·have := fSize_mem h; omega
theorem Flt.ind {p : Flt → Prop} (h : ∀ k n v ps ks, (∀ f ∈ ks, p f) → p (.mk k n v ps ks)) : ∀ f, p f := by
 have key : ∀ (m : Nat) (f : Flt), fSize f ≤ m → p f := by
  intro m
  induction m with
  | zero => intro f hf; cases f; rw [fSize] at hf; omega
  | succ m ih =>
   intro f hf
   cases f with
   | mk k n v ps ks =>
    refine h k n v ps ks fun g hg => ih g ?_
    have := fSize_mem hg
    rw [fSize] at hf; omega
 exact fun f => key _ f (Nat.le_refl _)
theorem fSize_pos (f : Flt) : 0 < fSize f := by cases f; rw [fSize]; omega
theorem nodeErrs_zero {l : List Flt} : nodeErrs l = 0 ↔ ∀ f ∈ l, nodeErr f = 0 := by
 induction l with
 | nil => simp [nodeErrs]
 | cons g l ih =>
  rw [nodeErrs, List.forall_mem_cons, ← ih]
  by_cases h : nodeErr g = 0 <;> simp [h]
theorem nodeErr_zero {k : Int} {n v : Bs} {ps : List Bs} {ks : List Flt} : nodeErr (.mk k n v ps ks) = 0 ↔ ownErr k n v ps ks.length = 0 ∧ ∀ f ∈ ks, nodeErr f = 0 := by
 rw [nodeErr, ← nodeErrs_zero]
 by_cases h : ownErr k n v ps ks.length = 0 <;> simp [h]
theorem ownErr_form {k : Int} {n v : Bs} {ps : List Bs} {m : Nat} (h : ownErr k n v ps m = 0) : formF k n v ps m = true := by
 unfold ownErr at h
 by_cases hf : formF k n v ps m = true
 ·exact hf
 ·simp [hf] at h
theorem form_kind {k : Int} {n v : Bs} {ps : List Bs} {m : Nat} (h : formF k n v ps m = true) : 1 ≤ k ∧ k ≤ 8 := by
 unfold formF at h
 split at h
 ·omega
 ·split at h
  ·omega
  ·split at h
   ·omega
   ·split at h
    ·omega
    ·split at h
     ·omega
     ·cases h
theorem form_set {k : Int} {n v : Bs} {ps : List Bs} {m : Nat} (h : formF k n v ps m = true) (hk : k = 1 ∨ k = 2) : n = [] ∧ v = [] ∧ ps = [] := by
 unfold formF at h
 rw [if_pos hk] at h
 simpa using h
theorem form_not {n v : Bs} {ps : List Bs} {m : Nat} (h : formF 3 n v ps m = true) : n = [] ∧ v = [] ∧ ps = [] ∧ m = 1 := by
 unfold formF at h
 rw [if_neg (by omega), if_pos rfl] at h
 simpa using h
theorem form_leaf {k : Int} {n v : Bs} {ps : List Bs} {m : Nat} (h : formF k n v ps m = true) (hk : isCmp k = true) : m = 0 := by
 unfold isCmp at hk
 simp only [Bool.and_eq_true, decide_eq_true_eq] at hk
 unfold formF at h
 rw [if_neg (by omega), if_neg (by omega)] at h
 split at h
 ·simp at h; exact h.2
 ·split at h
  ·simp at h; exact h.2.2
  ·rw [if_pos (by omega)] at h
   simp at h; exact h.2.1
theorem cmp_kind {k : Int} (h : isCmp k = true) : k ≠ 1 ∧ k ≠ 2 ∧ k ≠ 3 ∧ 4 ≤ k ∧ k ≤ 8 := by
 unfold isCmp at h
 simp only [Bool.and_eq_true, decide_eq_true_eq] at h
 omega
theorem kind_cases {k : Int} (h1 : 1 ≤ k) (h2 : k ≤ 8) : k = 3 ∨ isCmp k = true ∨ ((k = 1 ∨ k = 2) ∧ isCmp k = false) := by
 unfold isCmp
 simp only [Bool.and_eq_true, decide_eq_true_eq, Bool.and_eq_false_iff, decide_eq_false_iff_not]
 omega
end Go.Proofs.YtbkkchhimhlhcaaGreatDoor
/- Filters in memory: a value of api.Filter that reads as a filter; d bounds the depth of its kids. -/
namespace Go.Proofs.YtbkkchhimhlhcaaGreatDoor
open Go.RowKit Go.Sort
open Idn (L B Bs drop_L take_L size_L)
def FltC (w : World) (hi : Nat) : Nat → Flt → List Value → Prop
 | 0, _, _ => False
 | d + 1, f, cs => ∃ pv kv, cs = [.int .i64 f.kind, sv f.name, sv f.value, pv, kv] ∧ StrsV w hi pv f.parts ∧ SlV (FltC w hi d) w hi 5 kv f.kids
abbrev FltsV (w : World) (hi d : Nat) (v : Value) (l : List Flt) : Prop := SlV (FltC w hi d) w hi 5 v l
def FltV (w : World) (hi d : Nat) (v : Value) (f : Flt) : Prop :=
 ∃ pv kv, v = .agg #[.int .i64 f.kind, .string (B f.name), .string (B f.value), pv, kv] ∧ StrsV w hi pv f.parts ∧ FltsV w hi d kv f.kids
theorem FltC.keep {w w' : World} {hi : Nat} (hb : Below hi w w') : ∀ {d : Nat} {f : Flt} {cs : List Value}, FltC w hi d f cs → FltC w' hi d f cs
 | 0, _, _, h => h
 | d + 1, _, _, h => by
  obtain ⟨pv, kv, h1, h2, h3⟩ := h
  exact ⟨pv, kv, h1, SlV.keep h2 hb, SlV.keepE h3 hb fun _ _ _ he => FltC.keep hb he⟩
theorem FltC.mono {w : World} {hi hi' : Nat} (hh : hi ≤ hi') : ∀ {d : Nat} {f : Flt} {cs : List Value}, FltC w hi d f cs → FltC w hi' d f cs
 | 0, _, _, h => h
 | d + 1, _, _, h => by
  obtain ⟨pv, kv, h1, h2, h3⟩ := h
  exact ⟨pv, kv, h1, SlV.mono h2 hh, SlV.mono (SlV.keepE h3 (Below.refl _ _) fun _ _ _ he => FltC.mono hh he) hh⟩
theorem FltC.deep {w : World} {hi : Nat} : ∀ {d d' : Nat} {f : Flt} {cs : List Value}, d ≤ d' → FltC w hi d f cs → FltC w hi d' f cs
 | 0, _, _, _, _, h => h.elim
 | d + 1, 0, _, _, hd, _ => by omega
 | d + 1, d' + 1, _, _, hd, h => by
  obtain ⟨pv, kv, h1, h2, h3⟩ := h
  exact ⟨pv, kv, h1, h2, SlV.keepE h3 (Below.refl _ _) fun _ _ _ he => FltC.deep (by omega) he⟩
theorem FltsV.keep {w w' : World} {hi d : Nat} {v : Value} {l : List Flt} (h : FltsV w hi d v l) (hb : Below hi w w') : FltsV w' hi d v l := SlV.keepE h hb fun _ _ _ he => FltC.keep hb he
theorem FltsV.mono {w : World} {hi hi' d : Nat} {v : Value} {l : List Flt} (h : FltsV w hi d v l) (hh : hi ≤ hi') : FltsV w hi' d v l :=
 SlV.mono (SlV.keepE h (Below.refl _ _) fun _ _ _ he => FltC.mono hh he) hh
theorem FltV.keep {w w' : World} {hi d : Nat} {v : Value} {f : Flt} (h : FltV w hi d v f) (hb : Below hi w w') : FltV w' hi d v f := by
 obtain ⟨pv, kv, h1, h2, h3⟩ := h
 exact ⟨pv, kv, h1, SlV.keep h2 hb, FltsV.keep h3 hb⟩
theorem FltV.mono {w : World} {hi hi' d : Nat} {v : Value} {f : Flt} (h : FltV w hi d v f) (hh : hi ≤ hi') : FltV w hi' d v f := by
 obtain ⟨pv, kv, h1, h2, h3⟩ := h
 exact ⟨pv, kv, h1, SlV.mono h2 hh, FltsV.mono h3 hh⟩
theorem FltV.on {w w' : World} {d : Nat} {v : Value} {f : Flt} (h : FltV w w.heap.size d v f) (hb : Below w.heap.size w w') : FltV w' w'.heap.size d v f := FltV.mono (FltV.keep h hb) hb.size
theorem FltsV.on {w w' : World} {d : Nat} {v : Value} {l : List Flt} (h : FltsV w w.heap.size d v l) (hb : Below w.heap.size w w') : FltsV w' w'.heap.size d v l := FltsV.mono (FltsV.keep h hb) hb.size
theorem FltsV.cell {w : World} {hi d : Nat} {A : Option Addr} {n c : Nat} {l : List Flt} (h : FltsV w hi d (.slice A n c) l) {k : Nat} (hk : k < l.length) :
    ∃ b off pv kv, A = some ⟨b, off, none⟩ ∧ b < hi ∧ w.cell? ⟨b, off + k * 5, none⟩ = some (.int .i64 l[k].kind) ∧ w.cell? ⟨b, off + k * 5 + 1, none⟩ = some (.string (B l[k].name)) ∧ w.cell? ⟨b, off + k * 5 + 2, none⟩ = some (.string (B l[k].value)) ∧
     w.cell? ⟨b, off + k * 5 + 3, none⟩ = some pv ∧ w.cell? ⟨b, off + k * 5 + 4, none⟩ = some kv ∧ 0 < d ∧ StrsV w hi pv l[k].parts ∧ FltsV w hi (d - 1) kv l[k].kids := by
 obtain ⟨b, off, hA, hb, cs, h1, h2, h3⟩ := h.at_ hk
 cases d with
 | zero => exact h2.elim
 | succ d =>
  obtain ⟨pv, kv, rfl, hp, hq⟩ := h2
  exact ⟨b, off, pv, kv, hA, hb, by simpa using h3 0 _ rfl, by simpa [sv, Nat.add_assoc] using h3 1 _ rfl, by simpa [sv, Nat.add_assoc] using h3 2 _ rfl, by simpa [Nat.add_assoc] using h3 3 _ rfl, by simpa [Nat.add_assoc] using h3 4 _ rfl, by omega, hp, by simpa using hq⟩
end Go.Proofs.YtbkkchhimhlhcaaGreatDoor
/- One block that a reader turns: what reads with the block emptied reads whatever the block holds. -/
namespace Go.Proofs.YtbkkchhimhlhcaaGreatDoor
open Go.RowKit Go.Sort
open Idn (L B Bs drop_L take_L size_L)
section
variable {w w' : World} {b : Nat}
end
end Go.Proofs.YtbkkchhimhlhcaaGreatDoor
/- Plain: the filters whose text forms are read back; what a filter that Check accepts is. -/
namespace Go.Proofs.YtbkkchhimhlhcaaGreatDoor
open Go.RowKit Go.Sort
open Idn (L B Bs)
def nStop (c : UInt8) : Bool := [40, 41, 42, 92, 61, 60, 62].contains c
def rdName (n : Bs) : Bool := n.all (fun c => !nStop c) && !([38, 124, 33].contains (n.headD 0))
mutual
def rdOk : Flt → Prop
 | .mk k n v ps ks => ((k = 1 ∨ k = 2 ∨ (k = 3 ∧ ks.length = 1)) ∧ n = [] ∧ v = [] ∧ ps = [] ∧ rdOks ks) ∨ (rdName n = true ∧ ks = [] ∧ (((k = 4 ∨ k = 5 ∨ k = 6) ∧ ps = []) ∨ (k = 7 ∧ v = [] ∧ ps = []) ∨ (k = 8 ∧ v = [] ∧ 2 ≤ ps.length ∧ ps ≠ [[], []])))
def rdOks : List Flt → Prop
 | [] => True
 | f :: l => rdOk f ∧ rdOks l
end
theorem rdOks_all {l : List Flt} : rdOks l ↔ ∀ f ∈ l, rdOk f := by
 induction l with
 | nil => simp [rdOks]
 | cons f l ih => rw [rdOks, List.forall_mem_cons, ih]
theorem nameC_plain : ((List.range 256).all fun n => !Idn.nameC (UInt8.ofNat n) || (!nStop (UInt8.ofNat n) && ![38, 124, 33].contains (UInt8.ofNat n))) = true := by decide +kernel
theorem nameC_stop {c : UInt8} (h : Idn.nameC c = true) : nStop c = false ∧ [38, 124, 33].contains c = false := by
 have h1 := List.all_eq_true.1 nameC_plain c.toNat (List.mem_range.2 c.toNat_lt)
 rw [UInt8.ofNat_toNat, h] at h1
 simpa using h1
theorem name_rd {n : Bs} (h : Idn.name n = true) : rdName n = true := by
 unfold Idn.name Idn.made at h
 simp only [Bool.and_eq_true, List.all_eq_true, Bool.not_eq_true'] at h
 obtain ⟨⟨h1, h2, _⟩, _⟩ := h
 unfold rdName
 rw [Bool.and_eq_true, List.all_eq_true, Bool.not_eq_true']
 refine ⟨fun c hc => by rw [(nameC_stop (h1 c hc)).1]; rfl, ?_⟩
 cases n with
 | nil => cases h2
 | cons c n => exact (nameC_stop (h1 c List.mem_cons_self)).2
theorem rd_of_ok : ∀ f : Flt, nodeErr f = 0 → rdOk f := by
 intro f
 induction f using Flt.ind with
 | h k n v ps ks ih =>
  intro he
  obtain ⟨h1, h2⟩ := nodeErr_zero.1 he
  have hf := ownErr_form h1
  obtain ⟨k1, k8⟩ := form_kind hf
  have hks : rdOks ks := rdOks_all.2 fun f hf => ih f hf (h2 f hf)
  rw [rdOk]
  rcases kind_cases k1 k8 with rfl | hc | ⟨hk, hc⟩
  ·obtain ⟨e1, e2, e3, e4⟩ := form_not hf
   exact .inl ⟨.inr (.inr ⟨rfl, e4⟩), e1, e2, e3, hks⟩
  ·have hm := form_leaf hf hc
   have hn : Idn.name n = true := by
    unfold ownErr at h1
    rw [hf, hc] at h1
    by_cases hx : Idn.name n = true
    ·exact hx
    ·simp [hx] at h1
   refine .inr ⟨name_rd hn, List.eq_nil_of_length_eq_zero hm, ?_⟩
   have := cmp_kind hc
   unfold formF at hf
   rw [if_neg (by omega), if_neg (by omega)] at hf
   split at hf
   ·rename_i hk
    simp at hf
    exact .inl ⟨hk, hf.1⟩
   ·split at hf
    ·rename_i hk
     simp at hf
     exact .inr (.inl ⟨hk, hf.1, hf.2.1⟩)
    ·rw [if_pos (by omega)] at hf
     simp only [Bool.and_eq_true, List.isEmpty_iff, decide_eq_true_eq] at hf
     obtain ⟨hv, _, hp⟩ := hf
     unfold partsF at hp
     simp only [Bool.and_eq_true, decide_eq_true_eq] at hp
     refine .inr (.inr ⟨by omega, hv, hp.1, ?_⟩)
     rintro rfl
     simp at hp
  ·obtain ⟨e1, e2, e3⟩ := form_set hf hk
   exact .inl ⟨hk.elim .inl fun h => .inr (.inl h), e1, e2, e3, hks⟩
mutual
def fOk : Flt → Prop
 | .mk _ n v ps ks => (n.length ≤ 100000 ∧ v.length ≤ 100000 ∧ ps.length ≤ 1000 ∧ ∀ x ∈ ps, x.length ≤ 1100000) ∧ fOks ks
def fOks : List Flt → Prop
 | [] => True
 | f :: l => fOk f ∧ fOks l
end
theorem fOks_all {l : List Flt} : fOks l ↔ ∀ f ∈ l, fOk f := by
 induction l with
 | nil => simp [fOks]
 | cons f l ih => rw [fOks, List.forall_mem_cons, ih]
theorem fOk_own {f : Flt} (h : fOk f) : f.name.length ≤ 100000 ∧ f.value.length ≤ 100000 ∧ f.parts.length ≤ 1000 ∧ ∀ x ∈ f.parts, x.length ≤ 1100000 := by
 cases f; rw [fOk] at h; exact h.1
theorem fOk_kids {f : Flt} (h : fOk f) : ∀ g ∈ f.kids, fOk g := by
 cases f; rw [fOk] at h; exact fOks_all.1 h.2
def FSm (n : Nat) (f : Flt) : Prop := fSize f ≤ n ∧ fOk f
def FSms (n : Nat) (l : List Flt) : Prop := fSizes l ≤ n ∧ ∀ f ∈ l, fOk f
theorem FSm.kids {n : Nat} {f : Flt} (h : FSm n f) : FSms n f.kids := ⟨by have := h.1; cases f; rw [fSize] at this; show fSizes _ ≤ _; simp only [Flt.kids]; omega, fOk_kids h.2⟩
theorem FSms.mem {n : Nat} {l : List Flt} (h : FSms n l) {f : Flt} (hf : f ∈ l) : FSm n f := ⟨Nat.le_trans (fSize_mem hf) h.1, h.2 f hf⟩
theorem fSizes_len : ∀ l : List Flt, l.length ≤ fSizes l
 | [] => Nat.le_refl _
 | f :: l => by have h1 := fSizes_len l; have h2 := fSize_pos f; rw [fSizes, List.length_cons]; omega
theorem FSms.len {n : Nat} {l : List Flt} (h : FSms n l) : l.length ≤ n := Nat.le_trans (fSizes_len l) h.1
end Go.Proofs.YtbkkchhimhlhcaaGreatDoor
/- The values of the small case of identitylaw09, reckoned. -/
namespace Go.Proofs.YtbkkchhimhlhcaaGreatDoor
open Go.RowKit Go.Sort
open Idn (L B Bs)
namespace E9
def ageN : Bs := [97, 103, 101]
def mailN : Bs := [109, 97, 105, 108]
def personS : Idn.Sch := ⟨[⟨Idn.mainN, 1, false⟩, ⟨E8.cnN, 1, false⟩, ⟨ageN, 3, false⟩], []⟩
def annL : List Idn.Att := [⟨Idn.mainN, [E8.personN]⟩, ⟨E8.cnN, [[65, 110, 110, 32, 76, 101, 101]]⟩, ⟨ageN, [[51, 48]]⟩]
def eqF (n v : Bs) : Flt := .mk 4 n v [] []
def F1 : Flt := .mk 1 [] [] [] [eqF Idn.mainN E8.personN, notF (.mk 7 mailN [] [] [])]
def T1 : Bs := [40, 38, 40, 99, 108, 97, 115, 115, 61, 112, 101, 114, 115, 111, 110, 41, 40, 33, 40, 109, 97, 105, 108, 61, 42, 41, 41, 41]
def F2 : Flt := .mk 8 [97] [] [[98], [], [99]] []
def T2 : Bs := [40, 97, 61, 98, 42, 42, 99, 41]
def T3 : Bs := [40, 97, 61, 42, 98, 42, 41]
theorem ev_check : Idn.sCheck personS = 0 := by kernel_rfl
theorem ann_asm : Idn.ASm7 annL := by unfold Idn.ASm7 annL; decide
theorem ev_c1 : fCheck F1 = 0 := by kernel_rfl
theorem ev_c2 : fCheck F2 = 4 := by kernel_rfl
theorem ev_n1 : (fNames F1).length = 2 := by kernel_rfl
theorem ev_r1 : rdOk F1 := rd_of_ok F1 (by kernel_rfl)
theorem ev_r2 : rdOk F2 := by unfold F2; rw [rdOk]; exact .inr ⟨by decide, rfl, .inr (.inr ⟨rfl, rfl, by decide, by decide⟩)⟩
end E9
end Go.Proofs.YtbkkchhimhlhcaaGreatDoor
/- Plain laws of the layer index: entries put into their place, candidates. -/
namespace Go.Proofs.YtbkkchhimhlhcaaGreatDoor
open Go.RowKit Go.Sort
open Idn (L B Bs)
def namesE (es : List IxE) : List Bs := es.map (·.1)
structure OkE (es : List IxE) : Prop where
 srt : srtE es
 val : ∀ e ∈ es, validN e.1 = true
theorem OkE.tail {x : IxE} {l : List IxE} (h : OkE (x :: l)) : OkE l := ⟨(List.pairwise_cons.1 h.srt).2, fun e he => h.val e (List.mem_cons_of_mem _ he)⟩
theorem OkE.srtN {es : List IxE} (h : OkE es) : srtN (namesE es) := List.pairwise_map.2 h.srt
theorem OkE.valN {es : List IxE} (h : OkE es) : ∀ n ∈ namesE es, validN n = true := fun n hn => by
 obtain ⟨e, he, rfl⟩ := List.mem_map.1 hn
 exact h.val e he
theorem OkE.nil : OkE [] := ⟨List.Pairwise.nil, by simp⟩
theorem insE_mem {n : Bs} {A : List Idn.Att} (hn : validN n = true) : ∀ {es : List IxE}, OkE es → ∀ e : IxE, e ∈ insE n A es ↔ e = (n, A) ∨ (e ∈ es ∧ e.1 ≠ n)
 | [], _, e => by simp [insE]
 | x :: l, h, e => by
  obtain ⟨h1, h2⟩ := List.pairwise_cons.1 h.srt
  have hx := h.val x List.mem_cons_self
  have hl := fun y (hy : y ∈ l) => h.val y (List.mem_cons_of_mem _ hy)
  unfold insE
  by_cases c1 : cmpNm x.1 n < 0
  ·rw [if_pos c1, List.mem_cons, insE_mem hn h.tail e, List.mem_cons]
   have hne : x.1 ≠ n := fun e => by rw [e, nm_irr hn] at c1; omega
   constructor
   ·rintro (rfl | h | h)
    ·exact .inr ⟨.inl rfl, hne⟩
    ·exact .inl h
    ·exact .inr ⟨.inr h.1, h.2⟩
   ·rintro (h | ⟨rfl | h, h'⟩)
    ·exact .inr (.inl h)
    ·exact .inl rfl
    ·exact .inr (.inr ⟨h, h'⟩)
  ·rw [if_neg c1]
   have later : ∀ y ∈ l, y.1 ≠ n := fun y hy e => by
    have := h1 y hy
    rw [e] at this
    exact c1 this
   by_cases c2 : x.1 = n
   ·rw [if_pos c2, List.mem_cons, List.mem_cons]
    constructor
    ·rintro (h | h)
     ·exact .inl h
     ·exact .inr ⟨.inr h, later e h⟩
    ·rintro (h | ⟨rfl | h, h'⟩)
     ·exact .inl h
     ·exact absurd c2 h'
     ·exact .inr h
   ·rw [if_neg c2, List.mem_cons, List.mem_cons]
    constructor
    ·rintro (h | rfl | h)
     ·exact .inl h
     ·exact .inr ⟨.inl rfl, c2⟩
     ·exact .inr ⟨.inr h, later e h⟩
    ·rintro (h | ⟨h, _⟩)
     ·exact .inl h
     ·exact .inr h
theorem insE_ok {n : Bs} {A : List Idn.Att} (hn : validN n = true) : ∀ {es : List IxE}, OkE es → OkE (insE n A es)
 | [], _ => ⟨by unfold insE srtE; simp, by simp [insE, hn]⟩
 | x :: l, h => by
  obtain ⟨h1, h2⟩ := List.pairwise_cons.1 h.srt
  have hx := h.val x List.mem_cons_self
  have hl := fun y (hy : y ∈ l) => h.val y (List.mem_cons_of_mem _ hy)
  have hval : ∀ e ∈ insE n A (x :: l), validN e.1 = true := fun e he => by
   rcases (insE_mem hn h e).1 he with rfl | ⟨he, _⟩
   ·exact hn
   ·exact h.val e he
  refine ⟨?_, hval⟩
  unfold insE
  by_cases c1 : cmpNm x.1 n < 0
  ·rw [if_pos c1]
   refine List.pairwise_cons.2 ⟨fun y hy => ?_, (insE_ok hn h.tail).srt⟩
   rcases (insE_mem hn h.tail y).1 hy with rfl | ⟨hy, _⟩
   ·exact c1
   ·exact h1 y hy
  ·rw [if_neg c1]
   by_cases c2 : x.1 = n
   ·rw [if_pos c2]
    exact List.pairwise_cons.2 ⟨fun y hy => by have := h1 y hy; rw [c2] at this; exact this, h2⟩
   ·rw [if_neg c2]
    have hnx : cmpNm n x.1 < 0 := by
     have e1 := ordr_nm.neg x.1 n hx hn
     have e2 : cmpNm x.1 n ≠ 0 := fun e => c2 ((ordr_nm.eq x.1 n hx hn).1 e)
     omega
    refine List.pairwise_cons.2 ⟨fun y hy => ?_, h.srt⟩
    rcases List.mem_cons.1 hy with rfl | hy
    ·exact hnx
    ·exact nm_lt hn hx (hl y hy) hnx (h1 y hy)
theorem filter_ok {es : List IxE} (h : OkE es) (p : IxE → Bool) : OkE (es.filter p) := ⟨h.srt.filter _, fun e he => h.val e (List.mem_filter.1 he).1⟩
def CdE (es : List IxE) (l : List Bs) : Prop := srtN l ∧ ∀ x ∈ l, x ∈ namesE es
theorem CdE.nil (es : List IxE) : CdE es [] := ⟨List.Pairwise.nil, by simp⟩
theorem CdE.of {es : List IxE} (h : OkE es) (p : IxE → Bool) : CdE es ((es.filter p).map (·.1)) := ⟨(filter_ok h p).srtN, fun x hx => by
 obtain ⟨e, he, rfl⟩ := List.mem_map.1 hx
 exact List.mem_map.2 ⟨e, (List.mem_filter.1 he).1, rfl⟩⟩
def refEither : List (List Bs × Bool) → List Bs → List Bs × Bool
 | [], out => (out, true)
 | c :: l, out => if !c.2 then ([], false) else refEither l (refUni out c.1)
theorem either_law {es : List IxE} (h : OkE es) : ∀ (l : List (List Bs × Bool)) (out : List Bs), CdE es out → (∀ c ∈ l, CdE es c.1) →
    refEither l out = if l.all (·.2) then ((namesE es).filter fun n => out.contains n || l.any fun c => c.1.contains n, true) else ([], false)
 | [], out, ho, _ => by
  show (out, true) = ((namesE es).filter fun n => out.contains n || false, true)
  congr 1
  refine srtN_uniq ho.1 (h.srtN.filter _) (fun x hx => h.valN x (ho.2 x hx)) fun x => ?_
  rw [List.mem_filter, Bool.or_false, List.contains_iff_mem]
  exact ⟨fun hx => ⟨ho.2 x hx, hx⟩, fun hx => hx.2⟩
 | c :: l, out, ho, hl => by
  obtain ⟨c1, c2⟩ := hl c List.mem_cons_self
  have vo := fun x hx => h.valN x (ho.2 x hx)
  have vc := fun x hx => h.valN x (c2 x hx)
  rw [refEither, List.all_cons]
  cases hc : c.2 with
  | false => rfl
  | true =>
   rw [Bool.true_and]
   show refEither l (refUni out c.1) = _
   rw [either_law h l (refUni out c.1) ⟨refUni_srt _ _ vo vc ho.1 c1, fun x hx => ((refUni_mem _ _ vo vc).1 hx).elim (ho.2 x) (c2 x)⟩ fun d hd => hl d (List.mem_cons_of_mem _ hd)]
   cases l.all (·.2) with
   | false => rfl
   | true =>
    simp only [if_true]
    congr 1
    refine List.filter_congr fun x _ => ?_
    rw [List.any_cons, ← Bool.or_assoc]
    congr 1
    rw [Bool.eq_iff_iff, Bool.or_eq_true, List.contains_iff_mem, List.contains_iff_mem, List.contains_iff_mem]
    exact refUni_mem _ _ vo vc
theorem some_law {es : List IxE} (h : OkE es) (l : List (List Bs × Bool)) (hl : ∀ c ∈ l, CdE es c.1) : refEither l [] = someC es l := by
 rw [either_law h l [] (CdE.nil es) hl]
 rfl
theorem bestC_ok {es : List IxE} : ∀ (l : List (List Bs × Bool)) (b : List Bs × Bool), CdE es b.1 → (∀ c ∈ l, CdE es c.1) → CdE es (bestC l b).1
 | [], b, hb, _ => hb
 | c :: l, b, hb, hl => by
  rw [bestC]
  refine bestC_ok l _ ?_ fun d hd => hl d (List.mem_cons_of_mem _ hd)
  split
  ·exact hl c List.mem_cons_self
  ·exact hb
theorem someC_ok {es : List IxE} (h : OkE es) (l : List (List Bs × Bool)) : CdE es (someC es l).1 := by
 unfold someC
 split
 ·exact ⟨h.srtN.filter _, fun x hx => (List.mem_filter.1 hx).1⟩
 ·exact CdE.nil es
theorem range_ok {s : Idn.Sch} {idx : List Bs} {es : List IxE} (h : OkE es) (a low hi : Bs) : CdE es (ixRange s idx es a low hi).1 := by
 unfold ixRange
 split
 ·exact CdE.nil es
 ·exact CdE.of h _
theorem cands_mem {s : Idn.Sch} {idx : List Bs} {es : List IxE} : ∀ {ks : List Flt} {c : List Bs × Bool}, c ∈ ixCands s idx es ks → ∃ f ∈ ks, c = ixCand s idx es f
 | [], c, h => by rw [ixCands] at h; simp at h
 | f :: l, c, h => by
  rw [ixCands] at h
  rcases List.mem_cons.1 h with rfl | h
  ·exact ⟨f, List.mem_cons_self, rfl⟩
  ·obtain ⟨g, hg, e⟩ := cands_mem h
   exact ⟨g, List.mem_cons_of_mem _ hg, e⟩
theorem cand_ok {s : Idn.Sch} {idx : List Bs} {es : List IxE} (h : OkE es) (f : Flt) : CdE es (ixCand s idx es f).1 := by
 induction f using Flt.ind with
 | h k n v ps ks ih =>
  have hk : ∀ c ∈ ixCands s idx es ks, CdE es c.1 := fun c hc => by
   obtain ⟨g, hg, rfl⟩ := cands_mem hc
   exact ih g hg
  rw [ixCand]
  split
  ·unfold ixFind
   split
   ·exact CdE.nil es
   ·split
    ·exact CdE.nil es
    ·exact CdE.of h _
  ·split
   ·unfold ixBound
    split
    ·exact CdE.nil es
    ·split
     ·exact CdE.nil es
     ·split
      ·exact range_ok h _ _ _
      ·exact range_ok h _ _ _
   ·split
    ·unfold ixPres
     split
     ·exact CdE.nil es
     ·exact CdE.of h _
    ·split
     ·exact bestC_ok _ _ (CdE.nil es) hk
     ·split
      ·exact someC_ok h _
      ·exact CdE.nil es
end Go.Proofs.YtbkkchhimhlhcaaGreatDoor
/- Plain laws of the layer index: what the reference computes is what the layer computes. -/
namespace Go.Proofs.YtbkkchhimhlhcaaGreatDoor
open Go.RowKit Go.Sort
open Idn (L B Bs)
theorem insE_there {n : Bs} {A : List Idn.Att} : ∀ {es : List IxE} {k : Nat} {x : IxE}, (∀ (i : Nat) y, i < k → es[i]? = some y → cmpNm y.1 n < 0) → es[k]? = some x → ¬ cmpNm x.1 n < 0 → x.1 = n → insE n A es = es.take k ++ (n, A) :: es.drop (k + 1)
 | [], _, _, _, h, _, _ => by simp at h
 | y :: l, 0, x, _, h, h1, h2 => by
  simp at h
  subst h
  unfold insE
  rw [if_neg h1, if_pos h2]; rfl
 | y :: l, k + 1, x, hb, h, h1, h2 => by
  unfold insE
  rw [if_pos (hb 0 y (by omega) rfl), insE_there (k := k) (fun i z hi hz => hb (i + 1) z (by omega) (by simpa using hz)) (by simpa using h) h1 h2]
  rfl
theorem insE_new {n : Bs} {A : List Idn.Att} : ∀ {es : List IxE} {k : Nat}, k ≤ es.length → (∀ (i : Nat) y, i < k → es[i]? = some y → cmpNm y.1 n < 0) → (∀ x, es[k]? = some x → ¬ cmpNm x.1 n < 0 ∧ x.1 ≠ n) → insE n A es = es.take k ++ (n, A) :: es.drop k
 | [], 0, _, _, _ => rfl
 | [], k + 1, h, _, _ => by simp at h
 | y :: l, 0, _, _, h => by
  obtain ⟨h1, h2⟩ := h y rfl
  unfold insE
  rw [if_neg h1, if_neg h2]; rfl
 | y :: l, k + 1, hk, hb, h => by
  unfold insE
  rw [if_pos (hb 0 y (by omega) rfl), insE_new (k := k) (by simpa using hk) (fun i z hi hz => hb (i + 1) z (by omega) (by simpa using hz)) (fun x hx => h x (by simpa using hx))]
  rfl
theorem has_at {es : List IxE} (h : OkE es) {n : Bs} (hn : validN n = true) {k : Nat} (hb : ∀ (i : Nat) y, i < k → es[i]? = some y → cmpNm y.1 n < 0) (ha : ∀ x, es[k]? = some x → ¬ cmpNm x.1 n < 0) : hasE es n = true ↔ ∃ x, es[k]? = some x ∧ x.1 = n := by
 unfold hasE
 rw [List.any_eq_true]
 constructor
 ·rintro ⟨e, he, hen⟩
  have hen : e.1 = n := by simpa using hen
  obtain ⟨j, hj⟩ := List.mem_iff_getElem?.1 he
  have hkj : k ≤ j := by
   apply Nat.le_of_not_lt
   intro hlt
   have := hb j e hlt hj
   rw [hen, nm_irr hn] at this
   omega
  rcases Nat.lt_or_eq_of_le hkj with hlt | rfl
  ·have hjl := (List.getElem?_eq_some_iff.1 hj).1
   have hkl : k < es.length := by omega
   have hp := List.pairwise_iff_getElem.1 h.srt k j hkl hjl hlt
   have e2 : es[j] = e := (List.getElem?_eq_some_iff.1 hj).2
   rw [e2, hen] at hp
   exact absurd hp (ha es[k] (List.getElem?_eq_getElem hkl))
  ·exact ⟨e, hj, hen⟩
 ·rintro ⟨x, hx, e⟩
  exact ⟨x, List.mem_of_getElem? hx, by simpa using e⟩
theorem norm_nil (s : Idn.Sch) (a : Bs) : (sNorm s a []).2 ≠ 0 := by
 unfold sNorm kNorm
 cases (tyLook (sound s) a).2 with
 | false => simp
 | true =>
  have : (Idn.normV (tyLook (sound s) a).1.syn []).2 = false := by
   unfold Idn.normV
   rw [show Idn.clean [] = false from by decide]
   simp
  simp [this]
def refRange (s : Idn.Sch) (idx : List Bs) (es : List IxE) (a low hi : Bs) : List Bs × Bool :=
 if !idx.contains (Idn.lower a) then ([], false) else if (!low.isEmpty && (sNorm s a low).2 != 0) || (!hi.isEmpty && (sNorm s a hi).2 != 0) then ([], true) else ((es.filter fun e => (rGet e.2 a).any (refIn s a low hi)).map (·.1), true)
theorem refRange_eq (s : Idn.Sch) (idx : List Bs) (es : List IxE) (a low hi : Bs) : refRange s idx es a low hi = ixRange s idx es a low hi := by
 unfold refRange ixRange
 split
 ·rfl
 ·by_cases hl : low.isEmpty = true ∨ (sNorm s a low).2 = 0
  ·by_cases hh : hi.isEmpty = true ∨ (sNorm s a hi).2 = 0
   ·rw [if_neg]
    ·congr 2
     refine List.filter_congr fun e _ => found_law hl hh e.2
    ·simp only [Bool.or_eq_true, Bool.and_eq_true, Bool.not_eq_true', bne_iff_ne, ne_eq, not_or, not_and]
     exact ⟨fun h1 h2 => hl.elim (fun h => by rw [h] at h1; cases h1) h2, fun h1 h2 => hh.elim (fun h => by rw [h] at h1; cases h1) h2⟩
   ·rw [not_or] at hh
    have h1 : hi.isEmpty = false := by simpa using hh.1
    rw [if_pos (by rw [h1]; simp [hh.2])]
    congr 1
    rw [List.filter_eq_nil_iff.2 fun e _ => by rw [range_err (.inr ⟨h1, hh.2⟩)]; simp]
    rfl
  ·rw [not_or] at hl
   have h1 : low.isEmpty = false := by simpa using hl.1
   rw [if_pos (by rw [h1]; simp [hl.2])]
   congr 1
   rw [List.filter_eq_nil_iff.2 fun e _ => by rw [range_err (.inl ⟨h1, hl.2⟩)]; simp]
   rfl
def refFind (s : Idn.Sch) (idx : List Bs) (es : List IxE) (a x : Bs) : List Bs × Bool := if x.isEmpty then ([], idx.contains (Idn.lower a)) else refRange s idx es a x x
theorem inB_both {s : Idn.Sch} {a v x : Bs} (hv : (sNorm s a v).2 = 0) (hx : (sNorm s a x).2 = 0) (hne : x.isEmpty = false) : (inB s a (sNorm s a v).1 x 1 && inB s a (sNorm s a v).1 x (-1)) = ((sNorm s a x).1 == (sNorm s a v).1) := by
 have h1 := norm_pair hv
 have h2 := norm_pair hx
 rw [inB_low h1 h2 hne, inB_high h1 h2 hne]
 obtain ⟨_, p, q, _, _, hp, hq, _, _, _, hqp, he, _⟩ := orders_law h2 h1 h1
 rw [hp, hq, Bool.eq_iff_iff, Bool.and_eq_true, decide_eq_true_eq, decide_eq_true_eq, beq_iff_eq, ← he]
 show p ≤ 0 ∧ q ≤ 0 ↔ p = 0
 omega
theorem refFind_eq (s : Idn.Sch) (idx : List Bs) (es : List IxE) (a x : Bs) : refFind s idx es a x = ixFind s idx es a x := by
 unfold refFind ixFind
 cases hne : x.isEmpty with
 | true =>
  have hx : x = [] := List.isEmpty_iff.1 hne
  subst hx
  have := norm_nil s a
  rw [if_pos rfl]
  cases idx.contains (Idn.lower a) with
  | false => rfl
  | true => simp [this]
 | false =>
  rw [if_neg (by decide), refRange_eq]
  unfold ixRange
  split
  ·rfl
  ·by_cases h0 : (sNorm s a x).2 = 0
   ·rw [if_neg (by simp [h0])]
    congr 2
    refine List.filter_congr fun e _ => ?_
    unfold nV
    rw [any_fm, Bool.eq_iff_iff, List.any_eq_true, List.contains_iff_mem, List.mem_filterMap]
    constructor
    ·rintro ⟨v, hv, h⟩
     by_cases hv0 : (sNorm s a v).2 = 0
     ·rw [if_pos hv0] at h
      have h : (inB s a (sNorm s a v).1 x 1 && inB s a (sNorm s a v).1 x (-1)) = true := h
      rw [inB_both hv0 h0 hne, beq_iff_eq] at h
      exact ⟨v, hv, by rw [if_pos hv0, h]⟩
     ·rw [if_neg hv0] at h; cases h
    ·rintro ⟨v, hv, h⟩
     by_cases hv0 : (sNorm s a v).2 = 0
     ·rw [if_pos hv0] at h
      injection h with h
      refine ⟨v, hv, ?_⟩
      rw [if_pos hv0]
      show (inB s a (sNorm s a v).1 x 1 && inB s a (sNorm s a v).1 x (-1)) = true
      rw [inB_both hv0 h0 hne, beq_iff_eq, h]
     ·rw [if_neg hv0] at h; cases h
   ·rw [if_pos (by simp [h0])]
    congr 1
    rw [List.filter_eq_nil_iff.2 fun e _ => by rw [range_err (.inl ⟨hne, h0⟩)]; simp]
    rfl
end Go.Proofs.YtbkkchhimhlhcaaGreatDoor
/- Plain laws of the layer index: candidates of the reference; all that satisfy a filter are among them. -/
namespace Go.Proofs.YtbkkchhimhlhcaaGreatDoor
open Go.RowKit Go.Sort
open Idn (L B Bs)
mutual
def refCand (s : Idn.Sch) (idx : List Bs) (es : List IxE) : Flt → List Bs × Bool
 | .mk k n v _ ks => if k = 1 then bestC (refCands s idx es ks) ([], false) else if k = 2 then refEither (refCands s idx es ks) [] else if k = 4 then refFind s idx es n v else if k = 7 then ixPres idx es n
  else if k = 5 then (if v.isEmpty then ([], idx.contains (Idn.lower n)) else refRange s idx es n v []) else if k = 6 then (if v.isEmpty then ([], idx.contains (Idn.lower n)) else refRange s idx es n [] v) else ([], false)
def refCands (s : Idn.Sch) (idx : List Bs) (es : List IxE) : List Flt → List (List Bs × Bool)
 | [] => []
 | f :: l => refCand s idx es f :: refCands s idx es l
end
theorem refCands_eq {s : Idn.Sch} {idx : List Bs} {es : List IxE} : ∀ {ks : List Flt}, (∀ f ∈ ks, refCand s idx es f = ixCand s idx es f) → refCands s idx es ks = ixCands s idx es ks
 | [], _ => rfl
 | f :: l, h => by rw [refCands, ixCands, h f List.mem_cons_self, refCands_eq fun g hg => h g (List.mem_cons_of_mem _ hg)]
theorem bound_eq (s : Idn.Sch) (idx : List Bs) (es : List IxE) (k : Int) (n v : Bs) : ixBound s idx es k n v = if v.isEmpty then ([], idx.contains (Idn.lower n)) else if k = 5 then ixRange s idx es n v [] else ixRange s idx es n [] v := by
 unfold ixBound ixRange
 cases idx.contains (Idn.lower n) <;> cases v.isEmpty <;> simp
theorem refCand_eq {s : Idn.Sch} {idx : List Bs} {es : List IxE} (h : OkE es) (f : Flt) : refCand s idx es f = ixCand s idx es f := by
 induction f using Flt.ind with
 | h k n v ps ks ih =>
  have hc := refCands_eq ih
  have hk : ∀ c ∈ ixCands s idx es ks, CdE es c.1 := fun c hc => by
   obtain ⟨g, hg, rfl⟩ := cands_mem hc
   exact cand_ok h g
  rw [refCand, ixCand, hc, refFind_eq, refRange_eq, refRange_eq, some_law h _ hk, bound_eq]
  by_cases h1 : k = 1
  ·subst h1; simp
  ·by_cases h2 : k = 2
   ·subst h2; simp
   ·by_cases h4 : k = 4
    ·subst h4; simp
    ·by_cases h5 : k = 5
     ·subst h5; simp
     ·by_cases h6 : k = 6
      ·subst h6; simp
      ·by_cases h7 : k = 7
       ·subst h7; simp
       ·simp [h1, h2, h4, h5, h6, h7]
end Go.Proofs.YtbkkchhimhlhcaaGreatDoor
/- Plain laws of the layer index: entries put one after the other, and those that remain. -/
namespace Go.Proofs.YtbkkchhimhlhcaaGreatDoor
open Go.RowKit Go.Sort
open Idn (L B Bs)
theorem hasE_iff {es : List IxE} {n : Bs} : hasE es n = true ↔ ∃ A, (n, A) ∈ es := by
 unfold hasE
 rw [List.any_eq_true]
 constructor
 ·rintro ⟨⟨m, A⟩, he, h⟩
  have : m = n := by simpa using h
  subst this
  exact ⟨A, he⟩
 ·rintro ⟨A, h⟩
  exact ⟨(n, A), h, by simp⟩
theorem insE_len {n : Bs} {A : List Idn.Att} (hn : validN n = true) : ∀ {es : List IxE}, OkE es → (insE n A es).length = if hasE es n then es.length else es.length + 1
 | [], _ => rfl
 | x :: l, h => by
  obtain ⟨h1, h2⟩ := List.pairwise_cons.1 h.srt
  have hc : hasE (x :: l) n = (x.1 == n || hasE l n) := by unfold hasE; rw [List.any_cons]
  unfold insE
  by_cases c1 : cmpNm x.1 n < 0
  ·have hne : (x.1 == n) = false := by
     rw [beq_eq_false_iff_ne]
     intro e
     rw [e, nm_irr hn] at c1
     omega
   rw [if_pos c1, List.length_cons, insE_len hn h.tail, hc, hne, Bool.false_or, List.length_cons]
   cases hasE l n
   ·rw [if_neg Bool.false_ne_true, if_neg Bool.false_ne_true]
   ·rw [if_pos rfl, if_pos rfl]
  ·rw [if_neg c1]
   by_cases c2 : x.1 = n
   ·have e1 : (x.1 == n) = true := beq_iff_eq.2 c2
    rw [if_pos c2, hc, e1, Bool.true_or, if_pos rfl, List.length_cons, List.length_cons]
   ·have hl : hasE l n = false := by
      apply Bool.eq_false_iff.2
      intro hh
      obtain ⟨A', hA⟩ := hasE_iff.1 hh
      have h3 := h1 (n, A') hA
      dsimp only at h3
      omega
    have e1 : (x.1 == n) = false := beq_eq_false_iff_ne.2 c2
    rw [if_neg c2, hc, e1, Bool.false_or, hl, if_neg Bool.false_ne_true, List.length_cons]
structure SamE (out es : List IxE) : Prop where
 ok : OkE es
 mem : ∀ n A, (n, A) ∈ es ↔ ∃ A0, (n, A0) ∈ out ∧ Idn.rSorted A0 = A
 len : es.length = out.length
 one : (out.map (·.1)).Nodup
theorem SamE.has {out es : List IxE} (h : SamE out es) (n : Bs) : hasE es n = true ↔ n ∈ out.map (·.1) := by
 rw [hasE_iff, List.mem_map]
 constructor
 ·rintro ⟨A, hA⟩
  obtain ⟨A0, h0, _⟩ := (h.mem n A).1 hA
  exact ⟨(n, A0), h0, rfl⟩
 ·rintro ⟨⟨m, A0⟩, h0, rfl⟩
  exact ⟨_, (h.mem _ _).2 ⟨A0, h0, rfl⟩⟩
theorem filter_len : ∀ {l : List IxE} {n : Bs}, (l.map (·.1)).Nodup → n ∈ l.map (·.1) → (l.filter fun y => y.1 != n).length + 1 = l.length
 | [], _, _, h => by simp at h
 | x :: l, n, hn, h => by
  rw [List.map_cons, List.nodup_cons] at hn
  by_cases e : x.1 = n
  ·rw [List.filter_cons, if_neg (by simp [e]), List.filter_eq_self.2 fun y hy => ?_]
   ·rfl
   ·have : y.1 ≠ n := fun e' => hn.1 (by rw [e, ← e']; exact List.mem_map.2 ⟨y, hy, rfl⟩)
    simpa using this
  ·rw [List.map_cons] at h
   rcases List.mem_cons.1 h with h | h
   ·exact absurd h.symm e
   ·rw [List.filter_cons, if_pos (by simp [e]), List.length_cons, List.length_cons, filter_len hn.2 h]
theorem filter_none {l : List IxE} {n : Bs} (h : n ∉ l.map (·.1)) : (l.filter fun y => y.1 != n) = l := List.filter_eq_self.2 fun y hy => by
 have : y.1 ≠ n := fun e => h (List.mem_map.2 ⟨y, hy, e⟩)
 simpa using this
theorem SamE.put {out es : List IxE} (h : SamE out es) {n : Bs} {A : List Idn.Att} (hv : validN n = true) : SamE (out.filter (fun y => y.1 != n) ++ [(n, A)]) (insE n (Idn.rSorted A) es) := by
 refine ⟨insE_ok hv h.ok, fun m X => ?_, ?_, ?_⟩
 ·rw [insE_mem hv h.ok]
  constructor
  ·rintro (e | ⟨e, hne⟩)
   ·injection e with e1 e2
    exact ⟨A, List.mem_append_right _ (by rw [e1]; exact List.mem_singleton_self _), e2.symm⟩
   ·obtain ⟨A0, h0, h1⟩ := (h.mem m X).1 e
    exact ⟨A0, List.mem_append_left _ (List.mem_filter.2 ⟨h0, by simpa using hne⟩), h1⟩
  ·rintro ⟨A0, h0, h1⟩
   rcases List.mem_append.1 h0 with h0 | h0
   ·obtain ⟨h2, h3⟩ := List.mem_filter.1 h0
    exact .inr ⟨(h.mem m X).2 ⟨A0, h2, h1⟩, by simpa using h3⟩
   ·rw [List.mem_singleton] at h0
    injection h0 with e1 e2
    subst e1 e2
    exact .inl (by rw [h1])
 ·rw [insE_len hv h.ok, List.length_append, List.length_singleton]
  by_cases hh : hasE es n = true
  ·rw [if_pos hh, filter_len h.one ((h.has n).1 hh), h.len]
  ·rw [if_neg hh, filter_none (fun e => hh ((h.has n).2 e)), h.len]
 ·rw [List.map_append, List.nodup_append]
  refine ⟨h.one.sublist (List.filter_sublist.map _), by simp, ?_⟩
  intro a ha b hb e
  rw [List.map_cons, List.map_nil, List.mem_singleton] at hb
  subst hb
  subst e
  obtain ⟨y, hy, e⟩ := List.mem_map.1 ha
  have := (List.mem_filter.1 hy).2
  simp [e] at this
theorem SamE.nil : SamE [] [] := ⟨OkE.nil, by simp, rfl, by simp⟩
end Go.Proofs.YtbkkchhimhlhcaaGreatDoor
/- Plain laws of the layer index: the types that are looked up. -/
namespace Go.Proofs.YtbkkchhimhlhcaaGreatDoor
open Go.RowKit Go.Sort
open Idn (L B Bs)
theorem tyLook_cong {s : Idn.Sch} {n m : Bs} (h : Idn.lower n = Idn.lower m) : tyLook s n = tyLook s m := by
 unfold tyLook Idn.ixT
 rw [h]
theorem tyLook_name {s : Idn.Sch} {n : Bs} (h : (tyLook s n).2 = true) : Idn.lower (tyLook s n).1.name = Idn.lower n := by
 unfold tyLook at h ⊢
 cases hi : Idn.ixT s.types n with
 | none => rw [hi] at h; cases h
 | some k =>
  rw [hi] at h
  dsimp only at h ⊢
  cases ht : s.types[k]? with
  | none => rw [ht] at h; cases h
  | some t =>
   dsimp only
   unfold Idn.ixT at hi
   obtain ⟨hk, hp, _⟩ := List.findIdx?_eq_some_iff_getElem.1 hi
   have e : s.types[k] = t := (List.getElem?_eq_some_iff.1 ht).2
   rw [e] at hp
   simpa using hp
theorem same_type {s : Idn.Sch} {n m : Bs} (hn : (tyLook s n).2 = true) (hm : (tyLook s m).2 = true) : (tyLook s n).1.name = (tyLook s m).1.name ↔ Idn.lower n = Idn.lower m :=
 ⟨fun h => by rw [← tyLook_name hn, ← tyLook_name hm, h], fun h => by rw [tyLook_cong h]⟩
theorem new_twice {s : Idn.Sch} {n : Bs} (hn : (tyLook s n).2 = true) (l : List Bs) (hl : ∀ m ∈ l, (tyLook s m).2 = true) :
  ((l.map fun m => (tyLook s m).1.name).contains (tyLook s n).1.name) = ((l.map Idn.lower).contains (Idn.lower n)) := by
 rw [Bool.eq_iff_iff, List.contains_iff_mem, List.contains_iff_mem, List.mem_map, List.mem_map]
 constructor
 ·rintro ⟨m, hm, e⟩
  exact ⟨m, hm, (same_type (hl m hm) hn).1 e⟩
 ·rintro ⟨m, hm, e⟩
  exact ⟨m, hm, (same_type (hl m hm) hn).2 e⟩
end Go.Proofs.YtbkkchhimhlhcaaGreatDoor
/- Plain laws of the layer index: what IndexAgrees asks. -/
namespace Go.Proofs.YtbkkchhimhlhcaaGreatDoor
open Go.RowKit Go.Sort
open Idn (L B Bs)
theorem okE_uniq : ∀ {l m : List IxE}, OkE l → OkE m → (∀ e, e ∈ l ↔ e ∈ m) → l = m
 | [], [], _, _, _ => rfl
 | [], y :: m, _, _, h => absurd ((h y).2 List.mem_cons_self) (by simp)
 | x :: l, [], _, _, h => absurd ((h x).1 List.mem_cons_self) (by simp)
 | x :: l, y :: m, hl, hm, h => by
  have hx := hl.val x List.mem_cons_self
  have hy := hm.val y List.mem_cons_self
  obtain ⟨l1, _⟩ := List.pairwise_cons.1 hl.srt
  obtain ⟨m1, _⟩ := List.pairwise_cons.1 hm.srt
  have e : x = y := by
   rcases List.mem_cons.1 ((h x).1 List.mem_cons_self) with e | e
   ·exact e
   ·rcases List.mem_cons.1 ((h y).2 List.mem_cons_self) with e' | e'
    ·exact e'.symm
    ·have a1 := m1 x e
     have a2 := l1 y e'
     have := ordr_nm.neg x.1 y.1 hx hy
     omega
  subst e
  rw [okE_uniq hl.tail hm.tail fun z => ?_]
  constructor
  ·intro hz
   rcases List.mem_cons.1 ((h z).1 (List.mem_cons_of_mem _ hz)) with e | e
   ·subst e
    have := l1 z hz
    rw [nm_irr hx] at this; omega
   ·exact e
  ·intro hz
   rcases List.mem_cons.1 ((h z).2 (List.mem_cons_of_mem _ hz)) with e | e
   ·subst e
    have := m1 z hz
    rw [nm_irr hx] at this; omega
   ·exact e
end Go.Proofs.YtbkkchhimhlhcaaGreatDoor
/- Plain laws of the layer index: what IndexReplaces asks. -/
namespace Go.Proofs.YtbkkchhimhlhcaaGreatDoor
open Go.RowKit Go.Sort
open Idn (L B Bs)
theorem drop_ok {es : List IxE} (h : OkE es) (n : Bs) : OkE (ixDrop es n) := filter_ok h _
theorem drop_mem {es : List IxE} {n : Bs} {e : IxE} : e ∈ ixDrop es n ↔ e ∈ es ∧ e.1 ≠ n := by
 unfold ixDrop
 rw [List.mem_filter]
 simp
theorem drop_none {es : List IxE} {n : Bs} (h : hasE es n = false) : ixDrop es n = es := List.filter_eq_self.2 fun e he => by
 have : e.1 ≠ n := fun e' => by
  rw [hasE_iff.2 ⟨e.2, by rw [← e']; exact he⟩] at h
  cases h
 simpa using this
theorem drop_len (es : List IxE) (n : Bs) : (ixDrop es n).length ≤ es.length := List.length_filter_le _ _
end Go.Proofs.YtbkkchhimhlhcaaGreatDoor
/- Plain laws of the layer index: what the map of values holds. -/
namespace Go.Proofs.YtbkkchhimhlhcaaGreatDoor
open Go.RowKit Go.Sort
open Idn (L B Bs)
theorem ins_drop {es : List IxE} (h : OkE es) {n : Bs} (hn : validN n = true) (A : List Idn.Att) : insE n A (ixDrop es n) = insE n A es := by
 refine okE_uniq (insE_ok hn (drop_ok h n)) (insE_ok hn h) fun e => ?_
 rw [insE_mem hn (drop_ok h n), insE_mem hn h, drop_mem]
 constructor
 ·rintro (h1 | ⟨⟨h1, _⟩, h2⟩)
  ·exact .inl h1
  ·exact .inr ⟨h1, h2⟩
 ·rintro (h1 | ⟨h1, h2⟩)
  ·exact .inl h1
  ·exact .inr ⟨⟨h1, h2⟩, h2⟩
def atV (s : Idn.Sch) (es : List IxE) (a v n : Bs) : Prop := ∃ A, (n, A) ∈ es ∧ v ∈ nV s a A
theorem atV_ins {s : Idn.Sch} {es : List IxE} (h : OkE es) {n : Bs} (hn : validN n = true) {A : List Idn.Att} (hno : hasE es n = false) (a v m : Bs) : atV s (insE n A es) a v m ↔ atV s es a v m ∨ (m = n ∧ v ∈ nV s a A) := by
 unfold atV
 constructor
 ·rintro ⟨X, h1, h2⟩
  rcases (insE_mem hn h _).1 h1 with e | ⟨h3, _⟩
  ·injection e with e1 e2
   subst e1 e2
   exact .inr ⟨rfl, h2⟩
  ·exact .inl ⟨X, h3, h2⟩
 ·rintro (⟨X, h1, h2⟩ | ⟨rfl, h2⟩)
  ·refine ⟨X, (insE_mem hn h _).2 (.inr ⟨h1, fun e => ?_⟩), h2⟩
   have e : m = n := e
   subst e
   rw [hasE_iff.2 ⟨X, h1⟩] at hno
   cases hno
  ·exact ⟨A, (insE_mem hn h _).2 (.inl rfl), h2⟩
theorem atV_drop {s : Idn.Sch} {es : List IxE} (n a v m : Bs) : atV s (ixDrop es n) a v m ↔ atV s es a v m ∧ m ≠ n := by
 unfold atV
 constructor
 ·rintro ⟨X, h1, h2⟩
  obtain ⟨h3, h4⟩ := drop_mem.1 h1
  exact ⟨⟨X, h3, h2⟩, h4⟩
 ·rintro ⟨⟨X, h1, h2⟩, h3⟩
  exact ⟨X, drop_mem.2 ⟨h1, h3⟩, h2⟩
theorem atV_own {s : Idn.Sch} {es : List IxE} (h : OkE es) {n : Bs} {A : List Idn.Att} (hA : (n, A) ∈ es) (a v : Bs) : atV s es a v n ↔ v ∈ nV s a A := by
 have one : ∀ {l : List IxE}, OkE l → ∀ {X Y : List Idn.Att}, (n, X) ∈ l → (n, Y) ∈ l → X = Y := by
  intro l
  induction l with
  | nil => intro _ X Y hx; simp at hx
  | cons z l ih =>
   intro ho X Y hx hy
   obtain ⟨l1, _⟩ := List.pairwise_cons.1 ho.srt
   have hv := ho.val
   rcases List.mem_cons.1 hx with e | hx'
   ·rcases List.mem_cons.1 hy with e' | hy'
    ·rw [← e] at e'
     injection e' with _ e2
     exact e2.symm
    ·have h2 := l1 _ hy'
     rw [← e] at h2
     dsimp only at h2
     rw [nm_irr (hv _ hx)] at h2
     omega
   ·rcases List.mem_cons.1 hy with e' | hy'
    ·have h2 := l1 _ hx'
     rw [← e'] at h2
     dsimp only at h2
     rw [nm_irr (hv _ hy)] at h2
     omega
    ·exact ih ho.tail hx' hy'
 unfold atV
 constructor
 ·rintro ⟨X, h1, h2⟩
  rw [one h hA h1]; exact h2
 ·intro h2
  exact ⟨A, hA, h2⟩
theorem find_atV {s : Idn.Sch} {es : List IxE} (h : OkE es) (a v : Bs) (n : Bs) : n ∈ (es.filter fun e => (nV s a e.2).contains v).map (·.1) ↔ atV s es a v n := by
 rw [List.mem_map]
 unfold atV
 constructor
 ·rintro ⟨⟨m, X⟩, he, rfl⟩
  obtain ⟨h1, h2⟩ := List.mem_filter.1 he
  exact ⟨X, h1, by rwa [List.contains_iff_mem] at h2⟩
 ·rintro ⟨X, h1, h2⟩
  exact ⟨(n, X), List.mem_filter.2 ⟨h1, by rw [List.contains_iff_mem]; exact h2⟩, rfl⟩
theorem range_atV {s : Idn.Sch} {es : List IxE} (p : Bs → Bool) (a : Bs) (n : Bs) : n ∈ (es.filter fun e => (nV s a e.2).any p).map (·.1) ↔ ∃ v, p v = true ∧ atV s es a v n := by
 rw [List.mem_map]
 unfold atV
 constructor
 ·rintro ⟨⟨m, X⟩, he, rfl⟩
  obtain ⟨h1, h2⟩ := List.mem_filter.1 he
  obtain ⟨v, h3, h4⟩ := List.any_eq_true.1 h2
  exact ⟨v, h4, X, h1, h3⟩
 ·rintro ⟨v, h3, X, h1, h2⟩
  exact ⟨(n, X), List.mem_filter.2 ⟨h1, List.any_eq_true.2 ⟨v, h2, h3⟩⟩, rfl⟩
end Go.Proofs.YtbkkchhimhlhcaaGreatDoor
/- Plain laws: text forms of entries are read back. -/
namespace Go.Proofs.YtbkkchhimhlhcaaGreatDoor
open Go.RowKit Go.Sort
open Idn (L B Bs)
theorem clean_of_vals : ∀ (l p : List Bs), (∀ x ∈ l, Idn.clean x = true) → (p ++ l).Nodup → Idn.valsErr p l = 0 := fun l p h1 h2 => by
 have := vErr_nil l p
 rw [← this]
 induction l generalizing p with
 | nil => rfl
 | cons v l ih =>
  have hc : p.contains v = false := by
   rw [Bool.eq_false_iff]
   intro e
   rw [List.nodup_append] at h2
   exact h2.2.2 v (List.contains_iff_mem.1 e) v List.mem_cons_self rfl
  have hn : ([] : List Bs).contains v = false := rfl
  rw [vErr, h1 v List.mem_cons_self, hc, hn]
  exact ih (p ++ [v]) (fun x hx => h1 x (List.mem_cons_of_mem _ hx)) (by rw [List.append_assoc]; exact h2) (vErr_nil _ _)
theorem atts_ok : ∀ (l p : List Idn.Att), (∀ a ∈ l, Idn.name a.name = true ∧ a.vals.length ≠ 0 ∧ a.vals.length ≤ 16 ∧ Idn.valsErr [] a.vals = 0) → (∀ a ∈ l, ∀ b ∈ p, Idn.lower b.name ≠ Idn.lower a.name) → (l.map fun a => Idn.lower a.name).Nodup → Idn.attsErr p l = 0
 | [], _, _, _, _ => rfl
 | a :: l, p, h, hp, hn => by
  obtain ⟨h1, h2, h3, h4⟩ := h a List.mem_cons_self
  rw [List.map_cons, List.nodup_cons] at hn
  have hix : Idn.ixA p a.name = none := by
   unfold Idn.ixA
   rw [List.findIdx?_eq_none_iff]
   intro b hb
   simpa using hp a List.mem_cons_self b hb
  have he : Idn.attErr p a = 0 := by
   unfold Idn.attErr
   rw [h1, hix, if_neg (by decide), if_neg (by decide), if_neg h2, if_neg (by omega), h4]
  rw [Idn.attsErr, he, if_neg (by decide)]
  refine atts_ok l _ (fun x hx => h x (List.mem_cons_of_mem _ hx)) (fun x hx b hb => ?_) hn.2
  rcases List.mem_append.1 hb with hb | hb
  ·exact hp x (List.mem_cons_of_mem _ hx) b hb
  ·rw [List.mem_singleton] at hb
   subst hb
   exact fun e => hn.1 (List.mem_map.2 ⟨x, hx, e.symm⟩)
theorem aCheck_sorted {l : List Idn.Att} (h : Idn.aCheck l = 0) : Idn.aCheck (Idn.rSorted l) = 0 := by
 obtain ⟨h1, h2, h3⟩ := Idn.aCheck_all h
 have h4 := (aCheck_zero h).2
 have hcl := aCheck_clean h
 have hone : ∀ a ∈ l, Idn.valsOf l (Idn.lower a.name) = a.vals := fun a ha => by
  have key : ∀ l : List Idn.Att, (l.map fun a => Idn.lower a.name).Nodup → a ∈ l → Idn.valsOf l (Idn.lower a.name) = a.vals := by
   intro l
   induction l with
   | nil => intro _ h; cases h
   | cons b l ih =>
    intro hn hm
    rw [List.map_cons, List.nodup_cons] at hn
    rw [show b :: l = [b] ++ l from rfl, Idn.valsOf_app]
    rcases List.mem_cons.1 hm with rfl | hm
    ·have e1 : Idn.valsOf l (Idn.lower a.name) = [] := by
       refine List.eq_nil_iff_forall_not_mem.2 fun x hx => ?_
       obtain ⟨c, hc, e, _⟩ := mem_valsOf.1 hx
       exact hn.1 (List.mem_map.2 ⟨c, hc, e⟩)
     rw [e1, List.append_nil]
     unfold Idn.valsOf
     simp
    ·have hne : Idn.lower b.name ≠ Idn.lower a.name := fun e => hn.1 (List.mem_map.2 ⟨a, hm, e.symm⟩)
     rw [ih hn.2 hm]
     unfold Idn.valsOf
     simp [hne]
  exact key l h2 ha
 have hsome : ∀ a ∈ Idn.rSorted l, ∃ b ∈ l, a.name = Idn.lower b.name ∧ a.vals = Idn.insAll b.vals := fun a ha => by
  unfold Idn.rSorted at ha
  obtain ⟨m, hm, rfl⟩ := List.mem_map.1 ha
  rw [Idn.insAll_mem] at hm
  unfold Idn.lows at hm
  obtain ⟨b, hb, rfl⟩ := List.mem_map.1 hm
  have hb := (List.mem_filter.1 hb).1
  exact ⟨b, hb, rfl, by unfold Idn.rOne; rw [hone b hb]⟩
 have hlen : (Idn.rSorted l).length ≤ 32 := Nat.le_trans (rSorted_len l) h1
 unfold Idn.aCheck
 rw [if_neg (by omega)]
 refine atts_ok _ [] (fun a ha => ?_) (fun _ _ b hb => by cases hb) ?_
 ·obtain ⟨b, hb, e1, e2⟩ := hsome a ha
  have hnd : b.vals.Nodup := by
   have h0 : vErr [] [] b.vals = 0 := by rw [vErr_nil]; exact (h3 b hb).2
   have := (vErr_nd [] b.vals [] h0 (by simp) (by simp)).1
   simpa using this
  refine ⟨by rw [e1]; exact Idn.name_lower (h3 b hb).1, ?_, ?_, ?_⟩
  ·rw [e2, Idn.insAll_length hnd]; exact (h4 b hb).1
  ·rw [e2, Idn.insAll_length hnd]; exact (h4 b hb).2
  ·refine clean_of_vals _ [] (fun x hx => ?_) (by rw [e2]; simpa using Idn.insAll_nodup _)
   rw [e2, Idn.insAll_mem] at hx
   exact hcl b hb x hx
 ·have e : ∀ a ∈ Idn.rSorted l, Idn.lower a.name = a.name := fun a ha => Idn.rSorted_name ha
  rw [List.map_congr_left e]
  exact (rSorted_pw l).imp fun h e => by rw [e] at h; exact List.lt_irrefl _ h
end Go.Proofs.YtbkkchhimhlhcaaGreatDoor
/- Plain laws of filters: parts between a beginning and an end, from the left or with the end cut first. -/
namespace Go.Proofs.YtbkkchhimhlhcaaGreatDoor
open Go.RowKit Go.Sort
open Idn (L B Bs)
end Go.Proofs.YtbkkchhimhlhcaaGreatDoor
