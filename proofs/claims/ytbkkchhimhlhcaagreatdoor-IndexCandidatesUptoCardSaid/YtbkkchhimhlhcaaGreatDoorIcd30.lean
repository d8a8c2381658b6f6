/- Part 30 of the proof that identitylaw11.IndexCandidates returns true for every data that it may be called with: proof: the package variables hold what the program lays; nothing else is asked. -/
import Derived.Test.YtbkkchhimhlhcaaGreatDoorIcd27
import Derived.Test.YtbkkchhimhlhcaaGreatDoorIcd28
import Derived.Test.YtbkkchhimhlhcaaGreatDoorIcd29
import Derived.Deep.AppendLies
set_option linter.unusedVariables false
set_option linter.unusedSimpArgs false
set_option maxRecDepth 100000
set_option maxHeartbeats 16000000
/- attrs: the order of Sorted. -/
namespace Go.Proofs.YtbkkchhimhlhcaaGreatDoor
open Go.RowKit Go.Sort
open Idn (L B Bs drop_L take_L size_L)
theorem AttOwn.atts {w : World} {base : Nat} {v : Value} {ps : List (Idn.Att × Value)} {l : List Idn.Att} (h : AttOwn w base v ps) (hl : ps.map (·.1) = l) : AttsV w w.heap.size v l := by
 subst hl
 have h0 := h.1
 rw [show ps.length = (ps.map (·.1)).length by simp] at h0
 refine SlV.own h0 fun i x hx => ?_
 rw [List.getElem?_map] at hx
 obtain ⟨p, hp, rfl⟩ := Option.map_eq_some_iff.1 hx
 obtain ⟨e1, e2⟩ := rowA_at ps i p hp
 refine ⟨[sv p.1.name, p.2], rfl, ⟨p.2, rfl, StrsV.of_own (h.2.1 p (List.mem_of_getElem? hp))⟩, fun j u hj => ?_⟩
 match j, hj with
 | 0, hj => simp at hj; subst hj; exact e1
 | 1, hj => simp at hj; subst hj; exact e2
theorem sorted3_any (x y : Bs) (A A' : Option Addr) (n c n' c' : Nat) (w : World) : Calls Tryz.prog 138 #[.agg #[.string (B x), .slice A n c], .agg #[.string (B y), .slice A' n' c']] w fun e w' => e = .returned (.int .i64 (if x < y then -1 else 1)) ∧ ∃ q os', w' = grow (w.drewN q) os' := by
 have hb : Op.bytesLess (B x).toList (B y).toList = decide (x < y) := by rw [bytesLess_eq, toList_L, toList_L, Idn.L_B, Idn.L_B]
 by_cases h : x < y
 ·rw [if_pos h]
  rw [decide_eq_true h] at hb
  generalize B x = bx at *
  generalize B y = bz at *
  go_enter Tryz.func138, Tryz.ntmps138
  go_wp2
  go_ret
  exact ⟨rfl, 0, _, by rw [alloc_eq_grow, alloc_eq_grow, grow_grow]; rfl⟩
 ·rw [if_neg h]
  rw [decide_eq_false h] at hb
  generalize B x = bx at *
  generalize B y = bz at *
  go_enter Tryz.func138, Tryz.ntmps138
  go_wp2
  go_ret
  exact ⟨rfl, 0, _, by rw [alloc_eq_grow, alloc_eq_grow, grow_grow]; rfl⟩
theorem isAggA (w : World) : (isAgg (Tryz.sortA_ren.t 24)).run Tryz.prog w = .ok true w := by kernel_rfl
theorem sizeA (w : World) : (Go.sizeOf (Tryz.sortA_ren.t 24)).run Tryz.prog w = .ok 2 w := by kernel_rfl
theorem heap_sortedV {w : World} {g n : Nat} {os : Array Obj} {cur : Array Value} {e : TypeId} {fr : Nat × Nat} (F : Array Value) (hb : w.heap[g]? = some (.cells cur e fr)) :
  (grow (putRow id (Go.Sort.ahead w n) g 0 F) os).heap[g]? = some (.cells (putCells id 0 F cur) e fr) := by
 have hg : g < w.heap.size := (Array.getElem?_eq_some_iff.1 hb).1
 rw [heap_grow_old _ _ (by simpa using hg)]
 simp [putRow, mapBlock, Go.Sort.ahead, Array.getElem?_modify, hb, onCells]
theorem grownBy_sortedV {w : World} {g n : Nat} {os : Array Obj} (F : Array Value) : w.grownBy (grow (putRow id (Go.Sort.ahead w n) g 0 F) os) (some g) := by
 refine ⟨rfl, rfl, rfl, by simp, fun k hk hne => ?_⟩
 rw [heap_grow_old _ _ (by simpa using hk)]
 have : g ≠ k := fun e => hne (by rw [e])
 simp [putRow, mapBlock, Go.Sort.ahead, Array.getElem?_modify, this]
theorem take_putCellsV (cur F : Array Value) (h : F.size ≤ cur.size) : (putCells id 0 F cur).toList.take F.size = F.toList := by
 apply List.ext_getElem?
 intro j
 by_cases hj : j < F.size
 ·rw [List.getElem?_take_of_lt hj, Array.getElem?_toList, Array.getElem?_toList]
  simp [putCells, hj, show j < cur.size by omega]
 ·rw [List.getElem?_take_eq_none (by omega), List.getElem?_eq_none (by simp; omega)]
section
variable {qs : List (Idn.Att × Value)}
def encA (p : {p : Idn.Att × Value // p ∈ qs}) : List Value := [sv p.1.1.name, p.1.2]
def cfA (x y : {p : Idn.Att × Value // p ∈ qs}) : Int := if x.1.1.name < y.1.1.name then -1 else 1
theorem ltA (x y : {p : Idn.Att × Value // p ∈ qs}) : ltOf cfA x y = decide (x.1.1.name < y.1.1.name) := by
 unfold ltOf cfA
 by_cases h : x.1.1.name < y.1.1.name <;> simp [h]
theorem swoA : SWO (ltOf (cfA (qs := qs))) where
 irrefl x := by rw [ltA]; simp
 trans x y z h1 h2 := by
  rw [ltA] at *
  simp only [decide_eq_true_eq] at *
  exact List.lt_trans h1 h2
 ntrans x y z h1 h2 := by
  rw [ltA] at *
  simp only [decide_eq_false_iff_not] at *
  rw [List.not_lt] at *
  exact List.le_trans h2 h1
theorem flatA [Inhabited {p : Idn.Att × Value // p ∈ qs}] (l : List {p : Idn.Att × Value // p ∈ qs}) : (Go.Sort.flatK encA 2 l.toArray).toList = rowA (l.map (·.1)) := by
 apply List.ext_getElem?
 intro j
 by_cases hj : j < l.length * 2
 ·have hs : j < (Go.Sort.flatK encA 2 l.toArray).size := by simpa using hj
  rw [Array.getElem?_toList, Array.getElem?_eq_getElem hs]
  have e := get_flatK encA 2 l.toArray j (by simpa using hj)
  rw [getElem!_pos _ j hs] at e
  rw [e]
  have hi : j / 2 < l.length := by omega
  have hr := rowA_at (l.map (·.1)) (j / 2) l[j / 2].1 (by simp [hi])
  have hd : l.toArray[j / 2]! = l[j / 2] := by simp [hi]
  rw [hd]
  have hm := Nat.mod_two_eq_zero_or_one j
  have hj2 : j = j / 2 * 2 + j % 2 := by omega
  have hr2 : (rowA (l.map (·.1)))[j]? = (rowA (l.map (·.1)))[j / 2 * 2 + j % 2]? := by rw [← hj2]
  rw [hr2]
  generalize l[j / 2] = x at *
  rcases hm with h0 | h0
  ·rw [h0, Nat.add_zero, hr.1]; simp [encA]
  ·rw [h0, hr.2]; simp [encA]
 ·rw [List.getElem?_eq_none (by simp; omega), List.getElem?_eq_none (by rw [rowA_len]; simp; omega)]
end
theorem sortA_any (v : Value) (base : Nat) (qs : List (Idn.Att × Value)) (w : World) (hown : AttOwn w base v qs) (hbase : base ≤ w.heap.size) (hl : qs.length ≤ 1000) (hnd : ((qs.map (·.1)).map (·.name)).Nodup) :
  Calls Tryz.prog 137 #[v, .func (.func 138) #[] #[]] w fun e w' => e = .returned (.tuple #[]) ∧ ∃ qs', AttOwn w' base v qs' ∧ qs'.map (·.1) = (qs.map (·.1)).mergeSort (fun a b => decide (a.name ≤ b.name)) ∧ Below base w w' := by
 by_cases h0 : qs = []
 ·subst h0
  obtain ⟨A, c, hv⟩ := own_shape hown.1
  have h := AnyF.slices_SortFunc_none Tryz.sortA A c (.func (.func 138) #[] #[]) w
  change Calls Tryz.prog 137 _ _ _ at h
  rw [hv]
  refine h.mono ?_
  rintro e w' ⟨rfl, rfl⟩
  exact ⟨rfl, [], by rw [← hv]; exact hown, by simp, Below.refl _ _⟩
 ·have hpos : 0 < qs.length := List.length_pos_iff.2 h0
  rcases hown.1.2 with ⟨_, hn0⟩ | ⟨g, cap, cur, hu, hbg, hbk, h1, h2, h3, h4⟩
  ·omega
  letI : Inhabited {p : Idn.Att × Value // p ∈ qs} := ⟨⟨qs[0], List.getElem_mem hpos⟩⟩
  have hsz : qs.attach.toArray.size = qs.length := by simp
  have hfl := flatA (qs := qs) qs.attach
  rw [List.attach_map_subtype_val] at hfl
  have hH : HoldsK encA 2 w g 0 qs.attach.toArray := fun j hj => by
   rw [size_flatK, hsz] at hj
   have hjs : j < (Go.Sort.flatK encA 2 qs.attach.toArray).size := by rw [size_flatK, hsz]; exact hj
   refine ⟨?_, Lib.frozen_of_heap hbk _⟩
   rw [Nat.zero_add, cell_of_row w g j _ _ (0, 0) hbk, getElem!_pos _ j hjs, ← Array.getElem?_toList]
   have := congrArg (·[j]?) h4
   simp only [List.getElem?_take_of_lt hj] at this
   rw [this, ← hfl, Array.getElem?_toList, Array.getElem?_eq_getElem hjs]
   rfl
  have hcmp : CmpLays Tryz.prog 138 #[] encA 2 (cfA (qs := qs)) g 0 qs.attach.toArray.size w := fun m os dk _ x y => by
   obtain ⟨A1, c1, e1⟩ := own_shape (hown.2.1 _ x.2)
   obtain ⟨A2, c2, e2⟩ := own_shape (hown.2.1 _ y.2)
   show Calls Tryz.prog _ #[.agg #[sv x.1.1.name, x.1.2], .agg #[sv y.1.1.name, y.1.2]] _ _
   rw [e1, e2]
   exact sorted3_any _ _ _ _ _ _ _ _ _
  have hT : ∀ x y : {p : Idn.Att × Value // p ∈ qs}, ltOf cfA x y = false → ltOf cfA y x = false → x = y := fun x y a b => by
   rw [ltA] at a b
   simp only [decide_eq_false_iff_not] at a b
   rw [List.not_lt] at a b
   have e : x.1.1.name = y.1.1.name := List.le_antisymm b a
   rw [List.map_map] at hnd
   obtain ⟨i, hi, hxi⟩ := List.getElem_of_mem x.2
   obtain ⟨j, hj, hyj⟩ := List.getElem_of_mem y.2
   have hij : i = j := by
    have hi' : i < (qs.map ((·.name) ∘ (·.1) : Idn.Att × Value → Bs)).length := by simpa using hi
    have hj' : j < (qs.map ((·.name) ∘ (·.1) : Idn.Att × Value → Bs)).length := by simpa using hj
    have hpw := List.pairwise_iff_getElem.1 hnd
    rcases Nat.lt_trichotomy i j with hlt | hlt | hlt
    ·exact absurd (by simp [hxi, hyj, e]) (hpw i j hi' hj' hlt)
    ·exact hlt
    ·exact absurd (by simp [hxi, hyj, e]) (hpw j i hj' hi' hlt)
   subst hij
   exact Subtype.ext (hxi.symm.trans hyj)
  have h := AnyQ.slices_SortFunc_total Tryz.sortA 2 isAggA sizeA encA (fun _ => rfl) (fun x v hv => by
   obtain ⟨A1, c1, e1⟩ := own_shape (hown.2.1 _ x.2)
   unfold encA at hv
   rw [e1] at hv
   simp at hv
   rcases hv with rfl | rfl <;> rfl) cfA swoA 138 #[] g 0 cap qs.attach.toArray w fn_sorted3 hcmp hH (Array.getElem?_eq_some_iff.1 hbk).1 (by rw [hsz]; omega) hT
  change Calls Tryz.prog 137 _ _ _ at h
  rw [hsz] at h
  rw [hu]
  refine h.mono ?_
  rintro e w' ⟨rfl, n, os, rfl⟩
  clear h
  generalize hms : (qs.attach.toArray.toList.mergeSort fun x y => !ltOf cfA y x) = ms
  have hperm : (ms.map (·.1)).Perm qs := by
   rw [← hms]
   have := (List.mergeSort_perm qs.attach fun x y => !ltOf cfA y x).map Subtype.val
   rwa [List.attach_map_subtype_val] at this
  have hml : ms.length = qs.length := by simpa using hperm.length_eq
  have hg : w.grownBy (sortWorldK encA 2 w g 0 n ms.toArray os) (some g) := grownBy_sortedV _
  have hfm := flatA (qs := qs) ms
  have hFs : (Go.Sort.flatK encA 2 ms.toArray).size = qs.length * 2 := by simp [hml]
  refine ⟨rfl, ms.map (·.1), ⟨?_, ?_, ?_⟩, ?_, (Below.refl base w).grown hg hbase (fun k hk => by injection hk with hk; omega)⟩
  ·rw [List.length_map, hml]
   refine ⟨by rw [rowA_len, List.length_map, hml], .inr ⟨g, cap, _, rfl, hbg, heap_sortedV _ hbk, h1, h2, by simp [putCells, h3], ?_⟩⟩
   rw [← hfm, ← hFs]
   exact take_putCellsV cur _ (by rw [hFs, h3]; exact Nat.mul_le_mul_right 2 h1)
  ·intro p hp
   have hp' := hperm.mem_iff.1 hp
   refine own_kept (hown.2.1 p hp') hg fun k hk hk' => ?_
   refine own_apart hown.1 (hown.2.1 p hp') (by decide) g (by rw [hu]; rfl) ?_
   rw [hk, hk']
  ·exact (hperm.pairwise_iff (fun h => Apart.symm h)).2 hown.2.2
  ·rw [← hms, List.map_map]
   rw [List.map_mergeSort (s := fun a b : Idn.Att => decide (a.name ≤ b.name)) (fun a _ b _ => by
    rw [ltA]
    rw [Bool.eq_iff_iff]
    simp [← List.not_lt])]
   congr 1
   have := congrArg (List.map (·.1)) (List.attach_map_subtype_val qs)
   rw [List.map_map] at this
   simpa using this
end Go.Proofs.YtbkkchhimhlhcaaGreatDoor
/- attrs: Sorted. -/
namespace Go.Proofs.YtbkkchhimhlhcaaGreatDoor
open Go.RowKit Go.Sort
open Idn (L B Bs drop_L take_L size_L)
theorem info_attr : (Tryz.prog.info? 96).map (fun i => (i.zero, i.size, i.bytes)) = some (some (.agg #[.string ⟨#[]⟩, .slice none 0 0]), 2, 40) := by kernel_rfl
theorem ixAdd {ps : List (Idn.Att × Value)} {n : Bs} : (ps.map fun p => (p.1.name, p.1.vals.length)).findIdx? (fun x => decide (x.1 = n)) = (ps.map (·.1)).findIdx? (fun a => decide (a.name = n)) := by
 rw [findIdx_map, findIdx_map]
end Go.Proofs.YtbkkchhimhlhcaaGreatDoor
/- attrs: Names, Get. -/
namespace Go.Proofs.YtbkkchhimhlhcaaGreatDoor
open Go.RowKit Go.Sort
open Idn (L B Bs drop_L take_L size_L)
def namesL (l : List Idn.Att) : List Bs := (Idn.aSorted l).map (·.name)
def getL (l : List Idn.Att) (n : Bs) : List Bs := match (Idn.aSorted l).findIdx? (fun a => decide (a.name = Idn.lower n)) with
 | none => []
 | some k => match (Idn.aSorted l)[k]? with | none => [] | some a => a.vals
theorem addA_len (ps : List Idn.Att) (n : Bs) (vs : List Bs) : (Idn.addA ps n vs).length ≤ ps.length + 1 := by
 unfold Idn.addA
 split
 ·simp
 ·split <;> simp
theorem grp_len : ∀ (l acc : List Idn.Att), (Idn.grp acc l).length ≤ acc.length + l.length
 | [], acc => by simp [Idn.grp]
 | a :: l, acc => by
  have h1 := grp_len l (Idn.addA acc (Idn.lower a.name) a.vals)
  have h2 := addA_len acc (Idn.lower a.name) a.vals
  simp only [Idn.grp, List.length_cons]
  omega
end Go.Proofs.YtbkkchhimhlhcaaGreatDoor
/- schema: classed. -/
namespace Go.Proofs.YtbkkchhimhlhcaaGreatDoor
open Go.RowKit Go.Sort
open Idn (L B Bs drop_L take_L size_L)
def clKey (s : Idn.Sch) (k : Bs) : Bool := s.classes.any fun c => decide (Idn.lower c.name = k)
def clsGo (s : Idn.Sch) (hv : List Bs) : List Bs → List Bs → Option (List Bs)
 | al, [] => some al
 | al, v :: l => if !clKey s (Idn.fold v) then none else if (mustL s (Idn.fold v)).any (fun m => !hv.contains m) then none else clsGo s hv (al ++ mayL s (Idn.fold v)) l
def classedB (s : Idn.Sch) (hv vals : List Bs) : Bool := match clsGo s hv [Idn.mainN] vals with | none => false | some al => decide (0 < vals.length) && !hv.any (fun x => !al.contains x)
theorem StrsV.grown {w w' : World} {hi n c : Nat} {A : Option Addr} {l : List Bs} {row : Option Nat} (h : StrsV w hi (.slice A n c) l) (hg : w.grownBy w' row) (hs : ∀ b off, A = some ⟨b, off, none⟩ → row ≠ some b) (hh : hi ≤ w.heap.size) : StrsV w' hi (.slice A n c) l := by
 obtain ⟨A', c', e, h1, h2⟩ := h
 injection e with e1 e2 e3
 subst e1
 refine ⟨A, c', by rw [e2, e3], h1, fun hp => ?_⟩
 obtain ⟨b, off, hA, hb, hx⟩ := h2 hp
 refine ⟨b, off, hA, hb, fun i x hix => ?_⟩
 obtain ⟨cs, h3, h4, h5⟩ := hx i x hix
 exact ⟨cs, h3, h4, fun j u hj => (World.cell?_of_block (w := w) (hg.block b (by omega) (fun e => hs b off hA e.symm))).trans (h5 j u hj)⟩
theorem StrsV.put {w : World} {hi n c p i : Nat} {A : Option Addr} {l : List Bs} (h : StrsV w hi (.slice A n c) l) (hs : ∀ b off, A = some ⟨b, off, none⟩ → b ≠ p) (v : Value) : StrsV (w.setCell ⟨p, i, none⟩ v) hi (.slice A n c) l := by
 obtain ⟨A', c', e, h1, h2⟩ := h
 injection e with e1 e2 e3
 subst e1
 refine ⟨A, c', by rw [e2, e3], h1, fun hp => ?_⟩
 obtain ⟨b, off, hA, hb, hx⟩ := h2 hp
 refine ⟨b, off, hA, hb, fun i x hix => ?_⟩
 obtain ⟨cs, h3, h4, h5⟩ := hx i x hix
 exact ⟨cs, h3, h4, fun j u hj => (World.cell?_of_block (w := w) (Below.heap_setCell _ _ _ _ (by show b ≠ p; exact hs b off hA))).trans (h5 j u hj)⟩
theorem grown_cell {w w' : World} {p i : Nat} {row : Option Nat} {u : Value} (hg : w.grownBy w' row) (hc : w.cell? ⟨p, i, none⟩ = some u) (hne : some p ≠ row) : w'.cell? ⟨p, i, none⟩ = some u :=
 (World.cell?_of_block (w := w) (hg.block p (World.block_lt_of_cell? _ _ hc) hne)).trans hc
theorem grown_frozen {w w' : World} {p i : Nat} {row : Option Nat} (hg : w.grownBy w' row) (hp : p < w.heap.size) (hc : w.frozen? ⟨p, i, none⟩ = false) (hne : some p ≠ row) : w'.frozen? ⟨p, i, none⟩ = false :=
 (World.frozen?_of_block (w := w) (hg.block p hp hne)).trans hc
end Go.Proofs.YtbkkchhimhlhcaaGreatDoor
/- schema: Valid. -/
namespace Go.Proofs.YtbkkchhimhlhcaaGreatDoor
open Go.RowKit Go.Sort
open Idn (L B Bs drop_L take_L size_L)
theorem atts_zero : ∀ (l prev : List Idn.Att), Idn.attsErr prev l = 0 → ∀ a ∈ l, a.vals.length ≠ 0 ∧ a.vals.length ≤ 16
 | [], _, _ => by simp
 | b :: l, prev, h => by
  rw [Idn.attsErr] at h
  by_cases hb : Idn.attErr prev b = 0
  ·rw [if_neg (by simpa using hb)] at h
   intro a ha
   rcases List.mem_cons.1 ha with rfl | ha
   ·unfold Idn.attErr at hb
    split at hb
    ·cases hb
    ·split at hb
     ·cases hb
     ·split at hb
      ·cases hb
      ·split at hb
       ·cases hb
       ·rename_i h1 h2
        exact ⟨h1, by omega⟩
   ·exact atts_zero l _ h a ha
  ·rw [if_pos (by simpa using hb)] at h
   exact absurd h hb
theorem aCheck_zero {l : List Idn.Att} (h : Idn.aCheck l = 0) : l.length ≤ 32 ∧ ∀ a ∈ l, a.vals.length ≠ 0 ∧ a.vals.length ≤ 16 := by
 unfold Idn.aCheck at h
 split at h
 ·cases h
 ·exact ⟨by omega, atts_zero l [] h⟩
def vGo (s : Idn.Sch) : List Idn.Att → Int
 | [] => 0
 | a :: l => if attrE s a.name a.vals != 0 then attrE s a.name a.vals else vGo s l
def sValid (s : Idn.Sch) (l : List Idn.Att) : Int :=
 if Idn.aCheck l != 0 then Idn.aCheck l else if vGo (sound s) l != 0 then vGo (sound s) l else if !classedB (sound s) (namesL l) (getL l Idn.mainN) then 9 else 0
def ASm5 (l : List Idn.Att) : Prop := ∀ a ∈ l, a.name.length ≤ 1000000000 ∧ ∀ x ∈ a.vals, x.length ≤ 100000000
end Go.Proofs.YtbkkchhimhlhcaaGreatDoor
/- law07: small. -/
namespace Go.Proofs.YtbkkchhimhlhcaaGreatDoor
open Go.RowKit Go.Sort
open Idn (L B Bs drop_L take_L size_L)
def personN : Bs := [112, 101, 114, 115, 111, 110]
def staffN : Bs := [115, 116, 97, 102, 102]
def cnN : Bs := [99, 110]
def ageN : Bs := [97, 103, 101]
def activeN : Bs := [97, 99, 116, 105, 118, 101]
def smallS : Idn.Sch := ⟨[⟨Idn.mainN, 1, false⟩, ⟨cnN, 1, false⟩, ⟨ageN, 3, true⟩, ⟨activeN, 5, false⟩], [⟨personN, [], [cnN], [ageN]⟩, ⟨staffN, personN, [], [activeN]⟩]⟩
theorem litR (w : World) (cs : Array Value) (n size : Nat) (e : TypeId) (p : Nat) (hp : w.heap.size = p) (hm : n ≤ maxLen) (hs : cs.size = n * size) : (w.alloc (.cells cs e)).ownsRow 0 e size (.slice (some ⟨p, 0, none⟩) n n) n cs.toList := by
 subst hp
 exact World.ownsRow_lit w cs n (Nat.zero_le _) hm hs
theorem genW {R Q : World → Prop} {W : World} (hQ : Q W) (h : ∀ W, Q W → R W) : R W := h W hQ
theorem oneS {W : World} {v : Value} {x : Bs} {e : TypeId} (h : W.ownsRow 0 e 1 v 1 [sv x]) : StrsV W W.heap.size v [x] := StrsV.of_own (l := [x]) h
end Go.Proofs.YtbkkchhimhlhcaaGreatDoor
/- The values of the small case, reckoned. -/
namespace Go.Proofs.YtbkkchhimhlhcaaGreatDoor
open Go.RowKit Go.Sort
open Idn (L B Bs)
theorem ev_check : Idn.sCheck smallS = 0 := by kernel_rfl
theorem ev_sound : sound smallS = smallS := by rw [sound, if_pos ev_check]
theorem ev_n1 : kNorm smallS cnN [65, 110, 110, 32, 32, 76, 69, 69] = (⟨cnN, 1, false⟩, [97, 110, 110, 32, 108, 101, 101], 0) := by kernel_rfl
theorem ev_n2 : kNorm smallS ageN [48, 48, 55] = (⟨ageN, 3, true⟩, [55], 0) := by kernel_rfl
theorem ev_n3 : kNorm smallS activeN [84, 114, 117, 101] = (⟨activeN, 5, false⟩, [84, 82, 85, 69], 0) := by kernel_rfl
theorem ev_must : mustL smallS staffN = [cnN] := by kernel_rfl
theorem srt3 : sorted [cnN, activeN, ageN] = [activeN, ageN, cnN] := by
 unfold sorted
 have e1 : decide (cnN ≤ activeN) = false := by decide
 have e2 : decide (activeN ≤ ageN) = true := by decide
 have e3 : decide (cnN ≤ ageN) = false := by decide
 simp [List.mergeSort, List.MergeSort.Internal.splitInTwo, List.merge, e1, e2, e3, -decide_eq_true_eq, -decide_eq_false_iff_not]
theorem may3 : (mustL smallS staffN ++ ((Idn.lin smallS staffN).filterMap (smallS.classes[·]?)).flatMap (·.may)).map Idn.lower = [cnN, activeN, ageN] := by kernel_rfl
theorem cmp3 : Lib.compact [activeN, ageN, cnN] = [activeN, ageN, cnN] := by kernel_rfl
theorem ev_may : mayL smallS staffN = [activeN, ageN, cnN] := by
 unfold mayL merged
 rw [may3, srt3, cmp3]
def annA : List Idn.Att := [⟨Idn.mainN, [personN]⟩, ⟨cnN, [[65, 110, 110]]⟩]
theorem grpA : (Idn.grp [] annA).map Idn.normA = annA := by kernel_rfl
theorem aSrt : Idn.aSorted annA = annA := by
 unfold Idn.aSorted
 rw [grpA]
 have e1 : decide (Idn.mainN ≤ cnN) = true := by decide
 simp [List.mergeSort, List.MergeSort.Internal.splitInTwo, List.merge, annA, e1, -decide_eq_true_eq]
theorem ev_names : namesL annA = [Idn.mainN, cnN] := by
 unfold namesL
 rw [aSrt]; rfl
theorem ev_get : getL annA Idn.mainN = [personN] := by
 unfold getL
 rw [aSrt]; kernel_rfl
theorem may2 : (mustL smallS personN ++ ((Idn.lin smallS personN).filterMap (smallS.classes[·]?)).flatMap (·.may)).map Idn.lower = [cnN, ageN] := by kernel_rfl
theorem srt2 : sorted [cnN, ageN] = [ageN, cnN] := by
 unfold sorted
 have e1 : decide (cnN ≤ ageN) = false := by decide
 simp [List.mergeSort, List.MergeSort.Internal.splitInTwo, List.merge, e1, -decide_eq_true_eq, -decide_eq_false_iff_not]
theorem ev_may2 : mayL smallS personN = [ageN, cnN] := by
 unfold mayL merged
 rw [may2, srt2]
 kernel_rfl
theorem ev_cl : classedB smallS [Idn.mainN, cnN] [personN] = true := by
 have h0 : Idn.fold personN = personN := by kernel_rfl
 have h1 : clKey smallS personN = true := by kernel_rfl
 have h2 : mustL smallS personN = [cnN] := by kernel_rfl
 unfold classedB clsGo clsGo
 rw [h0, h1, h2, ev_may2]
 decide
theorem ev_a1 : Idn.aCheck annA = 0 := by kernel_rfl
theorem ev_g1 : vGo smallS annA = 0 := by kernel_rfl
theorem ev_v1 : sValid smallS annA = 0 := by
 unfold sValid
 rw [ev_a1, ev_sound, ev_g1, ev_names, ev_get, ev_cl]
 rfl
theorem small_ssm : SSm smallS := by unfold SSm TSm CSm Sm smallS; decide
end Go.Proofs.YtbkkchhimhlhcaaGreatDoor
/- law07: alive. -/
namespace Go.Proofs.YtbkkchhimhlhcaaGreatDoor
open Go.RowKit Go.Sort
open Idn (L B Bs drop_L take_L size_L)
def Sm7 (w : World) (u : Value) : Prop := SchV w w.heap.size u smallS ∧ Env w ∧ EnvU w
theorem Sm7.keep {w w' : World} {u : Value} (h : Sm7 w u) (hb : Below w.heap.size w w') : Sm7 w' u := ⟨SchV.mono (SchV.keep h.1 hb) hb.size, h.2.1.keep hb, h.2.2.keep hb⟩
end Go.Proofs.YtbkkchhimhlhcaaGreatDoor
/- law07: alive, walked. -/
namespace Go.Proofs.YtbkkchhimhlhcaaGreatDoor
open Go.RowKit Go.Sort
open Idn (L B Bs drop_L take_L size_L)
end Go.Proofs.YtbkkchhimhlhcaaGreatDoor
/- law07: SchemaChecks, walked. -/
namespace Go.Proofs.YtbkkchhimhlhcaaGreatDoor
open Go.RowKit Go.Sort
open Idn (L B Bs drop_L take_L size_L)
end Go.Proofs.YtbkkchhimhlhcaaGreatDoor
/- Rows of attributes that a call has laid: with values of the call's own, or with values laid before. -/
namespace Go.Proofs.YtbkkchhimhlhcaaGreatDoor
open Go.RowKit Go.Sort
open Idn (L B Bs drop_L take_L size_L)
def AttRow (w : World) (base : Nat) (v : Value) (ps : List (Idn.Att × Value)) : Prop :=
 w.ownsRow base 96 2 v ps.length (rowA ps) ∧ ∀ p ∈ ps, w.ownsRow base 9 1 p.2 p.1.vals.length (p.1.vals.map sv)
theorem rowA_snoc (ps : List (Idn.Att × Value)) (p : Idn.Att × Value) : rowA (ps ++ [p]) = rowA ps ++ [sv p.1.name, p.2] := by unfold rowA; rw [List.flatMap_append]; rfl
theorem AttRow.nil (w : World) (base : Nat) : AttRow w base (.slice none 0 0) [] := ⟨World.ownsRow_nil _ _ _ _, by simp⟩
theorem AttRow.keep {w w' : World} {base : Nat} {v : Value} {ps : List (Idn.Att × Value)} (h : AttRow w base v ps) (hb : Below w.heap.size w w') : AttRow w' base v ps :=
 ⟨own_below h.1 hb, fun p hp => own_below (h.2 p hp) hb⟩
theorem AttRow.push {w w' : World} {base : Nat} {v v' a : Value} {ps : List (Idn.Att × Value)} {x : Idn.Att} (h : AttRow w base v ps) (ha : w.ownsRow base 9 1 a x.vals.length (x.vals.map sv))
  (hown : w'.ownsRow base 96 2 v' (ps.length + 1) (rowA ps ++ [sv x.name, a])) (hg : w.grownBy w' v.ownBlock) : AttRow w' base v' (ps ++ [(x, a)]) := by
 refine ⟨by rw [List.length_append, rowA_snoc]; exact hown, fun p hp => ?_⟩
 rcases List.mem_append.1 hp with hp | hp
 ·exact own_kept (h.2 p hp) hg fun g h1 h2 => own_apart h.1 (h.2 p hp) (by decide) g h2 h1
 ·simp at hp; subst hp
  exact own_kept ha hg fun g h1 h2 => own_apart h.1 ha (by decide) g h2 h1
theorem AttRow.low {w : World} {base b : Nat} {v : Value} {ps : List (Idn.Att × Value)} (h : AttRow w base v ps) (hb : b ≤ base) : AttRow w b v ps :=
 ⟨own_base h.1 hb, fun p hp => own_base (h.2 p hp) hb⟩
theorem row_atts {w : World} {base : Nat} {v : Value} {ps : List (Idn.Att × Value)} {l : List Idn.Att} (h0 : w.ownsRow base 96 2 v ps.length (rowA ps)) (h2 : ∀ p ∈ ps, StrsV w w.heap.size p.2 p.1.vals) (hl : ps.map (·.1) = l) : AttsV w w.heap.size v l := by
 subst hl
 rw [show ps.length = (ps.map (·.1)).length by simp] at h0
 refine SlV.own h0 fun i x hx => ?_
 rw [List.getElem?_map] at hx
 obtain ⟨p, hp, rfl⟩ := Option.map_eq_some_iff.1 hx
 obtain ⟨e1, e2⟩ := rowA_at ps i p hp
 refine ⟨[sv p.1.name, p.2], rfl, ⟨p.2, rfl, h2 p (List.mem_of_getElem? hp)⟩, fun j u hj => ?_⟩
 match j, hj with
 | 0, hj => simp at hj; subst hj; exact e1
 | 1, hj => simp at hj; subst hj; exact e2
theorem AttRow.atts {w : World} {base : Nat} {v : Value} {ps : List (Idn.Att × Value)} {l : List Idn.Att} (h : AttRow w base v ps) (hl : ps.map (·.1) = l) : AttsV w w.heap.size v l :=
 row_atts h.1 (fun p hp => StrsV.of_own (h.2 p hp)) hl
end Go.Proofs.YtbkkchhimhlhcaaGreatDoor
/- identityref06: Sorted. -/
namespace Go.Proofs.YtbkkchhimhlhcaaGreatDoor
open Go.RowKit Go.Sort
open Idn (L B Bs drop_L take_L size_L)
def PairAt (X : World) (p : Nat) (a b : Value) : Prop :=
 (X.cell? ⟨p, 0, none⟩ = some a ∧ X.cell? ⟨p, 1, none⟩ = some b) ∧ (X.frozen? ⟨p, 0, none⟩ = false ∧ X.frozen? ⟨p, 1, none⟩ = false) ∧ p < X.heap.size
theorem PairAt.keep {X Y : World} {p : Nat} {a b : Value} (h : PairAt X p a b) {lo : Nat} (hb : Below lo X Y) (hp : p < lo) : PairAt Y p a b := by
 obtain ⟨⟨h0, h1⟩, ⟨g0, g1⟩, hl⟩ := h
 exact ⟨⟨(hb.cell (p := ⟨p, 0, none⟩) hp).trans h0, (hb.cell (p := ⟨p, 1, none⟩) hp).trans h1⟩, ⟨(hb.frozen (p := ⟨p, 0, none⟩) hp).trans g0, (hb.frozen (p := ⟨p, 1, none⟩) hp).trans g1⟩, Nat.lt_of_lt_of_le hl hb.size⟩
theorem PairAt.put {X : World} {p : Nat} {a b : Value} (h : PairAt X p a b) (c : Value) : PairAt (X.setCell ⟨p, 1, none⟩ c) p a c := by
 obtain ⟨⟨h0, h1⟩, ⟨g0, g1⟩, hl⟩ := h
 exact ⟨⟨by simp [go_sem, h0, h1], by simp [go_sem, h0, h1]⟩, ⟨by simp [g0], by simp [g1]⟩, by simpa using hl⟩
theorem insAll_snoc (xs : List Bs) (n : Bs) : Idn.insAll (xs ++ [n]) = Idn.insS n (Idn.insAll xs) := by unfold Idn.insAll; rw [List.foldl_append]; rfl
theorem insAll_app (xs ys : List Bs) (n : Bs) : Idn.insAll (xs ++ (ys ++ [n])) = Idn.insS n (Idn.insAll (xs ++ ys)) := by rw [← List.append_assoc, insAll_snoc]
theorem foldl_ins_len : ∀ (l acc : List Bs), (l.foldl (fun a n => Idn.insS n a) acc).length ≤ acc.length + l.length
 | [], acc => by simp
 | n :: l, acc => by
  have h1 := foldl_ins_len l (Idn.insS n acc)
  have h2 := insS_len n acc
  simp only [List.foldl_cons, List.length_cons]
  omega
theorem insAll_len (l : List Bs) : (Idn.insAll l).length ≤ l.length := by
 have := foldl_ins_len l []
 simpa [Idn.insAll] using this
theorem lows_take (l : List Idn.Att) (k : Nat) (hk : k < l.length) : Idn.lows (l.take (k + 1)) = Idn.lows (l.take k) ++ (if 0 < l[k].vals.length then [Idn.lower l[k].name] else []) := by
 rw [List.take_succ_eq_append_getElem hk]
 unfold Idn.lows
 rw [List.filter_append, List.map_append]
 by_cases h : 0 < l[k].vals.length
 ·rw [if_pos h, List.filter_cons_of_pos (by simpa using h)]; rfl
 ·rw [if_neg h, List.filter_cons_of_neg (by simpa using h)]; rfl
theorem vals_take (l : List Idn.Att) (n : Bs) (k : Nat) (hk : k < l.length) : Idn.valsOf (l.take (k + 1)) n = Idn.valsOf (l.take k) n ++ (if Idn.lower l[k].name = n then l[k].vals else []) := by
 rw [List.take_succ_eq_append_getElem hk]
 unfold Idn.valsOf
 rw [List.filter_append, List.flatMap_append]
 by_cases h : Idn.lower l[k].name = n
 ·rw [if_pos h, List.filter_cons_of_pos (by simpa using h)]; simp
 ·rw [if_neg h, List.filter_cons_of_neg (by simpa using h)]; rfl
theorem lows_len (l : List Idn.Att) : (Idn.lows l).length ≤ l.length := by
 unfold Idn.lows
 rw [List.length_map]
 exact List.length_filter_le _ _
theorem vals_len {l : List Idn.Att} {c : Nat} (h : ∀ a ∈ l, a.vals.length ≤ c) (n : Bs) : (Idn.valsOf l n).length ≤ l.length * c := by
 unfold Idn.valsOf
 refine Nat.le_trans (flat_len (·.vals) c _ fun a ha => h a (List.mem_filter.1 ha).1) ?_
 exact Nat.mul_le_mul_right _ (List.length_filter_le _ _)
theorem insAll_pw (l : List Bs) : (Idn.insAll l).Pairwise (· < ·) := Idn.insAll_lt l
theorem r_Sorted_any (v : Value) (l : List Idn.Att) (w : World) (hv : AttsV w w.heap.size v l) (hs : Idn.ASm7 l) :
  Calls Tryz.prog 67 #[v] w fun e w' => ∃ v' ps, e = .returned v' ∧ AttRow w' w.heap.size v' ps ∧ ps.map (·.1) = Idn.rSorted l ∧ Below w.heap.size w w' := by
 obtain ⟨A, c, rfl, hc⟩ := SlV.shape hv
 have hl1 := hs.1
 have hnl : (Idn.insAll (Idn.lows l)).length ≤ 1000 := Nat.le_trans (insAll_len _) (Nat.le_trans (lows_len l) (Nat.le_trans hl1 (by decide)))
 go_enter Tryz.func67, Tryz.ntmps67
 go_wp2
 go_loopw [3, 4] (fun u i wr => ∃ (k : Nat) (acc : List Bs), k ≤ l.length ∧ i = .int .i64 k ∧ wr.ownsRow w.heap.size 9 1 u acc.length (acc.map sv) ∧ Below w.heap.size w wr ∧ Hid (acc = Idn.insAll (Idn.lows (l.take k)))) (fun _ i _ => l.length - (intOf i).toNat)
 case atStart => exact ⟨0, [], Nat.zero_le _, rfl, World.ownsRow_nil _ _ _ _, Below.refl _ _, rfl⟩
 case round =>
  obtain ⟨k, acc, hk, rfl, hown, hb, hacc⟩ := hrel
  by_cases hlt : k < l.length
  ·have hltI : (k : Int) < (l.length : Int) := by omega
   obtain ⟨b, off, va, rfl, hbl, c0, c1, hva⟩ := AttsV.cell (AttsV.keep hv hb) hlt
   obtain ⟨Av, cv, rfl, hcv⟩ := SlV.shape hva
   have hlk := lows_take l k hlt
   obtain ⟨hn9, hv9, _⟩ := hs.2 l[k] (List.getElem_mem hlt)
   by_cases hz : 0 < l[k].vals.length
   ·have hzI : (0 : Int) < (l[k].vals.length : Int) := by omega
    rw [if_pos hz] at hlk
    have hL := r_lower_any (B l[k].name) wr (by rw [Idn.size_B]; omega)
    rw [Idn.L_B] at hL
    have HA : Hid (Idn.insS (Idn.lower l[k].name) acc = Idn.insAll (Idn.lows (l.take (k + 1)))) := by show _ = _; rw [hlk, insAll_snoc, hacc.out]
    have hpw : acc.Pairwise (· < ·) := by rw [hacc.out]; exact insAll_pw _
    have hal : acc.length ≤ 1000 := by
     rw [hacc.out]
     refine Nat.le_trans (insAll_len _) (Nat.le_trans (lows_len _) ?_)
     rw [List.length_take]; omega
    have hI := fun W (hW : Below wr.heap.size wr W) => r_Insert_any _ acc (B (Idn.lower l[k].name)) W (SlV.mono (SlV.keep (StrsV.of_own hown) hW) hW.size) hpw (by omega)
    rw [Idn.L_B] at hI
    generalize Idn.lower l[k].name = nm at *
    clear hlk hacc hpw
    obtain ⟨Au, cu, hu⟩ := own_shape hown
    subst hu
    go_wp2_with fail
    refine hL.mono ?_
    rintro e w1 ⟨rfl, hb1⟩
    have hI1 := hI w1 hb1
    clear hL hI c0 c1 hown
    go_wp2_with fail
    refine hI1.mono ?_
    rintro e w2 ⟨v2, rfl, ho2, hb2⟩
    clear hI1
    have hb12 := hb1.trans (hb2.mono hb1.size)
    have hbw2 := hb.trans (hb12.mono hb.size)
    have ho2' := own_base ho2 (Nat.le_trans hb.size hb1.size)
    clear ho2
    go_wp2
    go_roundw
    case rel => exact ⟨k + 1, _, by omega, by go_num, ho2', hbw2, HA⟩
    case measure => simp [intOf]; omega
   ·have hzI : ¬ (0 : Int) < (l[k].vals.length : Int) := by omega
    rw [if_neg hz, List.append_nil] at hlk
    have HA : Hid (acc = Idn.insAll (Idn.lows (l.take (k + 1)))) := by show _ = _; rw [hlk, hacc.out]
    clear hlk hacc hz
    go_wp2
    go_roundw
    case rel => exact ⟨k + 1, acc, by omega, by go_num, hown, hb, HA⟩
    case measure => simp [intOf]; omega
  ·have hltI : ¬ (k : Int) < (l.length : Int) := by omega
   have e1 : l.take k = l := List.take_of_length_le (by omega)
   have HN : Hid (acc = Idn.insAll (Idn.lows l)) := by show _ = _; rw [hacc.out, e1]
   have hal : acc.length ≤ 1000 := by rw [HN.out]; exact hnl
   obtain ⟨wn, hwn⟩ : ∃ wn : World, wn = wr := ⟨_, rfl⟩
   subst hwn
   obtain ⟨Au, cu, hu⟩ := own_shape hown
   subst hu
   have hvn := AttsV.keep hv hb
   have hS := StrsV.of_own hown
   clear hacc e1 hnl hlt hk hown
   go_wp2
   clear hltI
   go_loopw [5, 6] (fun u i wr => ∃ (k : Nat) (ps : List (Idn.Att × Value)), k ≤ acc.length ∧ i = .int .i64 k ∧ AttRow wr wn.heap.size u ps ∧ Below wn.heap.size wn wr ∧ ps.length = k ∧ Hid (ps.map (·.1) = (acc.take k).map (Idn.rOne l))) (fun _ i _ => acc.length - (intOf i).toNat)
   case atStart => exact ⟨0, [], Nat.zero_le _, rfl, AttRow.nil _ _, Below.refl _ _, rfl, rfl⟩
   case round =>
    obtain ⟨k, ps, hk, rfl, hrow, hbn, hpl, hps⟩ := hrel
    by_cases hlt : k < acc.length
    ·have hltI : (k : Int) < (acc.length : Int) := by omega
     obtain ⟨g, o, rfl, hgl, d0⟩ := StrsV.cell (SlV.keep hS hbn) hlt
     obtain ⟨w0, hw0⟩ : ∃ w0 : World, w0 = wr := ⟨_, rfl⟩
     subst hw0
     have htk := List.take_succ_eq_append_getElem hlt
     have HTK := Lib.hid htk
     have HPL := Lib.hid hpl
     clear htk hpl
     obtain ⟨Ar, cr, hu⟩ := own_shape hrow.1
     subst hu
     generalize hnm : acc[k] = nm at *
     have HNM := Lib.hid hnm
     clear hnm
     go_upto_block 4 with fail
     with_reducible refine gen1 (R := fun W => Code.wp Tryz.prog _ _ _ W) ?_
     intro W1 hbW1 hszW1 hc1 hf1
     have hP1 : PairAt W1 w0.heap.size (.string (B nm)) (.slice none 0 0) := ⟨⟨hc1 0 _ rfl, hc1 1 _ rfl⟩, ⟨hf1 0, hf1 1⟩, by omega⟩
     clear hc1 hf1
     go_wp2_with fail
     go_loopw [8] (fun i wx => ∃ (j : Nat) (vs : List Bs) (u : Value), j ≤ l.length ∧ i = .int .i64 j ∧ Below w0.heap.size w0 wx ∧ PairAt wx w0.heap.size (.string (B nm)) u ∧ wx.ownsRow (w0.heap.size + 1) 9 1 u vs.length (vs.map sv) ∧ Hid (vs = Idn.insAll (Idn.valsOf (l.take j) nm))) (fun i _ => l.length - (intOf i).toNat)
     case atStart => exact ⟨0, [], _, Nat.zero_le _, rfl, hbW1, hP1, World.ownsRow_nil _ _ _ _, rfl⟩
     case round =>
      obtain ⟨j, vs, u, hj, rfl, hbx, hP, hvs, hacc⟩ := hrel
      clear hP1 hbW1 hszW1
      by_cases hjl : j < l.length
      ·have hjI : (j : Int) < (l.length : Int) := by omega
       have hvt := vals_take l nm j hjl
       have HVT := Lib.hid hvt
       clear hvt
       obtain ⟨hn9, hv9, _⟩ := hs.2 l[j] (List.getElem_mem hjl)
       obtain ⟨wj, hwj⟩ : ∃ wj : World, wj = wr := ⟨_, rfl⟩
       subst hwj
       go_wp2
       go_loopw [9] (fun i wx => ∃ (m : Nat) (vs : List Bs) (u : Value), m ≤ l[j].vals.length ∧ i = .int .i64 m ∧ Below w0.heap.size w0 wx ∧ PairAt wx w0.heap.size (.string (B nm)) u ∧ wx.ownsRow (w0.heap.size + 1) 9 1 u vs.length (vs.map sv) ∧ Hid (vs = Idn.insAll (Idn.valsOf (l.take j) nm ++ l[j].vals.take m)) ∧ (Idn.lower l[j].name = nm ∨ m = 0)) (fun i _ => l[j].vals.length - (intOf i).toNat)
       case atStart => exact ⟨0, vs, u, Nat.zero_le _, rfl, hbx, hP, hvs, by show _ = _; rw [hacc.out]; simp, .inr rfl⟩
       case round =>
        obtain ⟨m, vs, u, hm, rfl, hbx, hP, hvs, hacc, hor⟩ := hrel
        have hbnx := hbn.trans (hbx.mono hbn.size)
        obtain ⟨b, off, va, rfl, hbl, c0, c1, hva⟩ := AttsV.cell (AttsV.keep hvn (hbnx.mono hb.size)) hjl
        obtain ⟨Av, cv, rfl, hcv⟩ := SlV.shape hva
        have e0 := (hbx.cell (p := ⟨g, o + k, none⟩) (Nat.lt_of_lt_of_le hgl hbn.size)).trans d0
        have hL := fun W => r_lower_any (B l[j].name) W (by rw [Idn.size_B]; omega)
        rw [Idn.L_B] at hL
        have k0 := cell_regrown c0
        have k1 := cell_regrown c1
        have k2 := cell_regrown e0
        have q1 := cq (W := wr) fun W' _ => hL W'
        have hsame : (((B (Idn.lower l[j].name)).toList == (B nm).toList)) = decide (Idn.lower l[j].name = nm) := by rw [str_beq, Idn.L_B, Idn.L_B]
        by_cases he : Idn.lower l[j].name = nm
        ·rw [decide_eq_true he] at hsame
         by_cases hml : m < l[j].vals.length
         ·have hmI : (m : Int) < (l[j].vals.length : Int) := by omega
          have HS : Hid (Idn.insS l[j].vals[m] vs = Idn.insAll (Idn.valsOf (l.take j) nm ++ l[j].vals.take (m + 1))) := by
           show _ = _
           rw [hacc.out, List.take_succ_eq_append_getElem hml, insAll_app]
          have hpw : vs.Pairwise (· < ·) := by rw [hacc.out]; exact insAll_pw _
          have hvl : vs.length ≤ 2000000000 := by
           rw [hacc.out]
           refine Nat.le_trans (insAll_len _) ?_
           have h1 := vals_len (l := l.take j) (c := 1100000) (fun a ha => (hs.2 a (List.mem_of_mem_take ha)).2.1) nm
           rw [List.length_append, List.length_take]
           rw [List.length_take] at h1
           have h2 : min j l.length * 1100000 ≤ 900 * 1100000 := Nat.mul_le_mul_right _ (by omega)
           omega
          clear hacc hor
          generalize Idn.lower l[j].name = ln at *
          have HE := Lib.hid he
          clear he hL
          go_wp2
          refine wp_region_quiet_below (by kernel_rfl) (by kernel_rfl) ?_
          repeat (first | go_big_quiet_step ((go_at_call 56; exact q1 _ _)) | quiet_step ((go_at_call 56; exact q1 _ _)))
          refine wpQuiet_nil ?_
          intro _ hw'
          obtain ⟨⟨dq, osq⟩, hw''⟩ := hw'
          subst hw''
          have hb4 := below_regrown wr dq osq
          generalize grow (redrawn wr dq) osq = W4 at hb4 ⊢
          clear q1 k0 k1 k2
          have hpx : w0.heap.size < wr.heap.size := hP.2.2
          have hP4 := PairAt.keep hP hb4 hpx
          have hvs4 := own_below hvs hb4
          have f1 := cell_later hb4 c1
          have hb04 := hbx.trans (hb4.mono hbx.size)
          obtain ⟨gv, ov, rfl, hgv, m0⟩ := StrsV.cell (SlV.keep (SlV.mono hva (Nat.le_trans hb.size (Nat.le_trans hbn.size hbx.size))) hb4) hml
          clear c0 c1 e0 hP hvs
          have hIn := r_Insert_any u vs (B l[j].vals[m]) W4.drew (StrsV.of_own (w := W4.drew) hvs4) hpw (by omega)
          rw [Idn.L_B] at hIn
          have z1 : W4.drew.cell? ⟨w0.heap.size, 1, none⟩ = some u := hP4.1.2
          have z2 : W4.drew.cell? ⟨b, off + j * 2 + 1, none⟩ = some (.slice (some ⟨gv, ov, none⟩) l[j].vals.length cv) := f1
          have z3 : W4.drew.cell? ⟨gv, ov + m, none⟩ = some (.string (B l[j].vals[m])) := m0
          have z4 : W4.drew.frozen? ⟨w0.heap.size, 1, none⟩ = false := hP4.2.1.2
          have hP4d : PairAt W4.drew w0.heap.size (.string (B nm)) u := hP4
          have hb04d : Below w0.heap.size w0 W4.drew := hb04.drew
          have hpx4 : w0.heap.size < W4.drew.heap.size := hP4d.2.2
          obtain ⟨Ab, cb, hu⟩ := own_shape hvs4
          subst hu
          clear m0 f1 hP4 hvs4
          go_wp2_with fail
          go_region_law (
           go_simp
           go_at_call 145
           refine hIn.mono ?_
           rintro e w6 ⟨v6, rfl, ho6, hb6⟩
           have hP6 := PairAt.keep hP4d hb6 hpx4
           obtain ⟨⟨r0, r1⟩, ⟨s0, s1⟩, hl6⟩ := hP6
           obtain ⟨A6, c6, hv6⟩ := own_shape ho6
           subst hv6
           go_wp2_with fail)
          all_goals
           have hP6 : PairAt (w6.setCell ⟨w0.heap.size, 1, none⟩ (.slice A6 (Idn.insS l[j].vals[m] vs).length c6)) w0.heap.size (.string (B nm)) (.slice A6 (Idn.insS l[j].vals[m] vs).length c6) := PairAt.put (PairAt.keep hP4d hb6 hpx4) _
           have hne9 : (Value.slice A6 (Idn.insS l[j].vals[m] vs).length c6).ownBlock ≠ some w0.heap.size := fun e => absurd (ho6.lt _ e).1 (Nat.not_le.2 hpx4)
           have ho7 : (w6.setCell ⟨w0.heap.size, 1, none⟩ (.slice A6 (Idn.insS l[j].vals[m] vs).length c6)).ownsRow (w0.heap.size + 1) 9 1 (.slice A6 (Idn.insS l[j].vals[m] vs).length c6) (Idn.insS l[j].vals[m] vs).length ((Idn.insS l[j].vals[m] vs).map sv) :=
            own_base (ownsRow_setCell_other ho6 hne9 _) hpx4
           have hb7 : Below w0.heap.size w0 (w6.setCell ⟨w0.heap.size, 1, none⟩ (.slice A6 (Idn.insS l[j].vals[m] vs).length c6)) := (hb04d.trans (hb6.mono hb04d.size)).setCell (Nat.le_refl _) _
           go_wp2_with fail
           go_roundw
           case rel => exact ⟨m + 1, _, _, by omega, by go_num, hb7, hP6, ho7, HS, .inl HE.out⟩
           case measure => simp [intOf]; omega
         ·have hmI : ¬ (m : Int) < (l[j].vals.length : Int) := by omega
          have HS : Hid (vs = Idn.insAll (Idn.valsOf (l.take (j + 1)) nm)) := by
           show _ = _
           rw [hacc.out, HVT.out, if_pos he, (List.take_of_length_le (by omega) : l[j].vals.take m = l[j].vals)]
          clear hacc hor
          generalize Idn.lower l[j].name = ln at *
          clear he hL
          go_wp2
          refine wp_region_quiet_below (by kernel_rfl) (by kernel_rfl) ?_
          repeat (first | go_big_quiet_step ((go_at_call 56; exact q1 _ _)) | quiet_step ((go_at_call 56; exact q1 _ _)))
          refine wpQuiet_nil ?_
          intro _ hw'
          obtain ⟨⟨dq, osq⟩, hw''⟩ := hw'
          subst hw''
          have hb4 := below_regrown wr dq osq
          generalize grow (redrawn wr dq) osq = W4 at hb4 ⊢
          clear q1 k0 k1 k2
          have hP4 := PairAt.keep hP hb4 hP.2.2
          have hvs4 := own_below hvs hb4
          have hb04 := hbx.trans (hb4.mono hbx.size)
          clear c0 c1 e0 hP hvs
          go_wp2_with fail
          go_roundw
          case rel => exact ⟨j + 1, vs, u, by omega, by go_num, hb04, hP4, hvs4, HS⟩
          case measure => simp [intOf]; omega
        ·rw [decide_eq_false he] at hsame
         obtain rfl : m = 0 := hor.resolve_left he
         have HS : Hid (vs = Idn.insAll (Idn.valsOf (l.take (j + 1)) nm)) := by
          show _ = _
          rw [hacc.out, HVT.out, if_neg he]; rfl
         clear hacc hor
         generalize Idn.lower l[j].name = ln at *
         clear he hL
         go_wp2
         refine wp_region_quiet_below (by kernel_rfl) (by kernel_rfl) ?_
         repeat (first | go_big_quiet_step ((go_at_call 56; exact q1 _ _)) | quiet_step ((go_at_call 56; exact q1 _ _)))
         refine wpQuiet_nil ?_
         intro _ hw'
         obtain ⟨⟨dq, osq⟩, hw''⟩ := hw'
         subst hw''
         have hb4 := below_regrown wr dq osq
         generalize grow (redrawn wr dq) osq = W4 at hb4 ⊢
         clear q1 k0 k1 k2
         have hP4 := PairAt.keep hP hb4 hP.2.2
         have hvs4 := own_below hvs hb4
         have hb04 := hbx.trans (hb4.mono hbx.size)
         clear c0 c1 e0 hP hvs
         go_wp2_with fail
         go_roundw
         case rel => exact ⟨j + 1, vs, u, by omega, by go_num, hb04, hP4, hvs4, HS⟩
         case measure => simp [intOf]; omega
      ·have hjI : ¬ (j : Int) < (l.length : Int) := by omega
       have e1 : l.take j = l := List.take_of_length_le (by omega)
       have HV : Hid (vs = Idn.insAll (Idn.valsOf l nm)) := by show _ = _; rw [hacc.out, e1]
       have hrow2 := hrow.keep hbx
       obtain ⟨⟨p0, p1⟩, _, hpx⟩ := hP
       have hbase : wn.heap.size ≤ w0.heap.size := hbn.size
       have hbx2 := hbx.size
       obtain ⟨Ab, cb, hu⟩ := own_shape hvs
       subst hu
       have hwx : wn.heap.size ≤ wr.heap.size := by omega
       have hrl : (ps.length + 1) * 41 ≤ 140737488355328 := by have := HPL.out; omega
       clear hacc e1 hjl hj hrow
       go_wp2_with (at_builtin; refine wpList_push wr rfl _ _ 46 rfl wn.heap.size 96 (.agg #[.string ⟨#[]⟩, .slice none 0 0]) 2 40 Tryz.underlying46 info_attr rfl (by decide) _ ps.length _ hrow2.1 rfl [.string (B nm), .slice Ab vs.length cb] rfl rfl (by intro u hu; simp at hu; rcases hu with rfl | rfl <;> rfl) hrl hwx ?_ rfl)
       intro v' w1' hown' hg' _ hb' _
       have hrow3 : AttRow w1' wn.heap.size v' (ps ++ [(⟨nm, vs⟩, .slice Ab vs.length cb)]) := AttRow.push hrow2 (own_base hvs (by omega)) (by simpa [sv] using hown') hg'
       have hbw1 : Below wn.heap.size wn w1' := (hbn.trans (hbx.mono hbn.size)).trans hb'
       go_wp2
       go_roundw
       case rel => exact ⟨k + 1, _, by omega, by go_num, hrow3, hbw1, by simp; exact HPL.out, by
        show _ = _
        rw [HTK.out, List.map_append, List.map_append, hps.out]
        simp only [List.map_cons, List.map_nil]
        rw [HV.out]; rfl⟩
       case measure => simp [intOf]; omega
    ·have hltI : ¬ (k : Int) < (acc.length : Int) := by omega
     have e1 : acc.take k = acc := List.take_of_length_le (by omega)
     have HF : Hid (ps.map (·.1) = Idn.rSorted l) := by show _ = _; rw [hps.out, e1, HN.out]; rfl
     clear hps e1
     go_wp2
     go_ret
     exact ⟨_, rfl, ps, hrow.low hb.size, HF.out, hb.trans (hbn.mono hb.size)⟩
end Go.Proofs.YtbkkchhimhlhcaaGreatDoor
/- identityref06: Names, Get. -/
namespace Go.Proofs.YtbkkchhimhlhcaaGreatDoor
open Go.RowKit Go.Sort
open Idn (L B Bs drop_L take_L size_L)
def rGet (l : List Idn.Att) (n : Bs) : List Bs := match (Idn.rSorted l).findIdx? (fun a => decide (a.name = Idn.lower n)) with
 | none => []
 | some k => match (Idn.rSorted l)[k]? with | none => [] | some a => a.vals
theorem rSorted_len (l : List Idn.Att) : (Idn.rSorted l).length ≤ l.length := by
 unfold Idn.rSorted
 rw [List.length_map]
 exact Nat.le_trans (insAll_len _) (lows_len l)
theorem r6_Get_any (v : Value) (l : List Idn.Att) (n : ByteArray) (w : World) (hv : AttsV w w.heap.size v l) (hs : Idn.ASm7 l) (hn : n.size ≤ 1000000000) :
  Calls Tryz.prog 147 #[v, .string n] w fun e w' => ∃ A k c, e = .returned (.slice A k c) ∧ StrsV w' w'.heap.size (.slice A k c) (rGet l (L n)) ∧ Below w.heap.size w w' := by
 have hS := r_Sorted_any v l w hv hs
 have hq1 := rSorted_len l
 have hl1 := hs.1
 have hL := fun W => r_lower_any n W (by omega)
 generalize hrg : rGet l (L n) = r
 have HR : Hid (r = rGet l (L n)) := hrg.symm
 unfold rGet at HR
 generalize Idn.rSorted l = q at *
 generalize Idn.lower (L n) = ln at *
 obtain ⟨A0, c0, rfl, hc0⟩ := SlV.shape hv
 clear hv hs hrg
 go_enter Tryz.func147, Tryz.ntmps147
 go_wp2_with fail
 refine hS.mono ?_
 rintro e w1 ⟨v', ps, rfl, hrow, hps, hb1⟩
 have hA := hrow.atts hps
 obtain ⟨A, c, rfl, hc⟩ := SlV.shape hA
 clear hS hrow hps
 go_wp2
 go_loopw [6] (fun i wr => ∃ k : Nat, k ≤ q.length ∧ i = .int .i64 k ∧ Below w1.heap.size w1 wr ∧ Hid (q.findIdx? (fun a => decide (a.name = ln)) = ((q.drop k).findIdx? (fun a => decide (a.name = ln))).map (· + k))) (fun i _ => q.length - (intOf i).toNat)
 case atStart => exact ⟨0, Nat.zero_le _, rfl, Below.refl _ _, by show _ = _; simp⟩
 case round =>
  obtain ⟨k, hk, rfl, hb, hinv⟩ := hrel
  have hbw := hb1.trans (hb.mono hb1.size)
  by_cases hlt : k < q.length
  ·have hAr := AttsV.keep hA hb
   obtain ⟨b, off, va, rfl, hbl, d0, d1, hva⟩ := AttsV.cell hAr hlt
   obtain ⟨Av, cv, rfl, hcv⟩ := SlV.shape hva
   have hltI : (k : Int) < (q.length : Int) := by omega
   obtain ⟨f1, f2⟩ := findIdx_drop _ q k hlt hinv.out
   have k0 := cell_regrown d0
   have q1 := cq (W := wr) fun W' _ => hL W'
   have hsame : (((B q[k].name).toList == (B ln).toList)) = decide (q[k].name = ln) := by rw [str_beq, Idn.L_B, Idn.L_B]
   clear hinv
   by_cases he : q[k].name = ln
   ·have HF : Hid (r = q[k].vals) := by
     show _ = _
     rw [HR.out, f1 (decide_eq_true he)]
     dsimp only
     rw [List.getElem?_eq_getElem hlt]
    rw [decide_eq_true he] at hsame
    clear he f1 f2
    go_wp2
    refine wp_region_quiet_below (by kernel_rfl) (by kernel_rfl) ?_
    repeat (first | go_big_quiet_step ((go_at_call 56; exact q1 _ _)) | quiet_step ((go_at_call 56; exact q1 _ _)))
    refine wpQuiet_nil ?_
    intro _ hw'
    obtain ⟨⟨dq, osq⟩, hw''⟩ := hw'
    subst hw''
    have hb4 := below_regrown wr dq osq
    generalize grow (redrawn wr dq) osq = W4 at hb4 ⊢
    clear q1 k0
    have d1' := cell_later hb4 d1
    have hv4 := SlV.mono (SlV.keep (SlV.mono hva hb.size) hb4) hb4.size
    go_wp2
    go_ret
    exact ⟨_, _, _, rfl, by rw [HF.out]; exact hv4, hbw.trans (hb4.mono hbw.size)⟩
   ·have HF : Hid (q.findIdx? (fun a => decide (a.name = ln)) = ((q.drop (k + 1)).findIdx? (fun a => decide (a.name = ln))).map (· + (k + 1))) := f2 (decide_eq_false he)
    rw [decide_eq_false he] at hsame
    clear he f1 f2
    go_wp2
    refine wp_region_quiet_below (by kernel_rfl) (by kernel_rfl) ?_
    repeat (first | go_big_quiet_step ((go_at_call 56; exact q1 _ _)) | quiet_step ((go_at_call 56; exact q1 _ _)))
    refine wpQuiet_nil ?_
    intro _ hw'
    obtain ⟨⟨dq, osq⟩, hw''⟩ := hw'
    subst hw''
    have hb4 := below_regrown wr dq osq
    generalize grow (redrawn wr dq) osq = W4 at hb4 ⊢
    clear q1 k0
    go_wp2
    go_roundw
    case rel => exact ⟨k + 1, by omega, by go_num, hb.trans (hb4.mono hb.size), HF⟩
    case measure => simp [intOf]; omega
  ·have hltI : ¬ (k : Int) < (q.length : Int) := by omega
   have HF : Hid (r = []) := by
    show _ = _
    rw [HR.out, hinv.out, List.drop_eq_nil_of_le (by omega)]; rfl
   clear hinv
   go_wp2
   go_ret
   exact ⟨_, _, _, rfl, by rw [HF.out]; exact SlV.nil _ _ _ _, hbw⟩
end Go.Proofs.YtbkkchhimhlhcaaGreatDoor
/- Lists of entries in memory: names with their attributes. -/
namespace Go.Proofs.YtbkkchhimhlhcaaGreatDoor
open Go.RowKit Go.Sort
open Idn (L B Bs drop_L take_L size_L)
abbrev EntP := Bs × List Idn.Att
def EEn (w : World) (hi : Nat) (x : EntP) (cs : List Value) : Prop := ∃ v, cs = [sv x.1, v] ∧ AttsV w hi v x.2
abbrev EntsV (w : World) (hi : Nat) (v : Value) (l : List EntP) : Prop := SlV (EEn w hi) w hi 2 v l
theorem EntsV.keep {w w' : World} {hi : Nat} {v : Value} {l : List EntP} (h : EntsV w hi v l) (hb : Below hi w w') : EntsV w' hi v l :=
 SlV.keepE h hb fun _ _ _ ⟨u, h1, h2⟩ => ⟨u, h1, AttsV.keep h2 hb⟩
theorem EntsV.mono {w : World} {hi hi' : Nat} {v : Value} {l : List EntP} (h : EntsV w hi v l) (hh : hi ≤ hi') : EntsV w hi' v l :=
 SlV.mono (SlV.keepE h (Below.refl _ _) fun _ _ _ ⟨u, h1, h2⟩ => ⟨u, h1, AttsV.mono h2 hh⟩) hh
theorem EntsV.cell {w : World} {hi : Nat} {A : Option Addr} {n c : Nat} {l : List EntP} (h : EntsV w hi (.slice A n c) l) {k : Nat} (hk : k < l.length) :
  ∃ b off v, A = some ⟨b, off, none⟩ ∧ b < hi ∧ w.cell? ⟨b, off + k * 2, none⟩ = some (.string (B l[k].1)) ∧ w.cell? ⟨b, off + k * 2 + 1, none⟩ = some v ∧ AttsV w hi v l[k].2 := by
 obtain ⟨b, off, hA, hb, cs, h1, ⟨v, h2, h4⟩, h3⟩ := h.at_ hk
 subst h2
 exact ⟨b, off, v, hA, hb, by simpa [sv] using h3 0 _ rfl, by simpa [Nat.add_assoc] using h3 1 _ rfl, h4⟩
def rowEn (qs : List (EntP × Value)) : List Value := qs.flatMap fun q => [sv q.1.1, q.2]
theorem rowEn_len (qs : List (EntP × Value)) : (rowEn qs).length = qs.length * 2 := by
 unfold rowEn
 induction qs with
 | nil => rfl
 | cons q qs ih => rw [List.flatMap_cons, List.length_append, ih]; simp; omega
theorem rowEn_at : ∀ (qs : List (EntP × Value)) (i : Nat) (q : EntP × Value), qs[i]? = some q → (rowEn qs)[i * 2]? = some (sv q.1.1) ∧ (rowEn qs)[i * 2 + 1]? = some q.2
 | [], i, q, h => by simp at h
 | p :: qs, 0, q, h => by simp at h; subst h; exact ⟨rfl, rfl⟩
 | p :: qs, i + 1, q, h => by
  have := rowEn_at qs i q (by simpa using h)
  have e : rowEn (p :: qs) = sv p.1.1 :: p.2 :: rowEn qs := rfl
  rw [e, show (i + 1) * 2 = i * 2 + 1 + 1 by omega, show i * 2 + 1 + 1 + 1 = (i * 2 + 1) + 1 + 1 by omega]
  simpa using this
theorem rowEn_app (a b : List (EntP × Value)) : rowEn (a ++ b) = rowEn a ++ rowEn b := by unfold rowEn; rw [List.flatMap_append]
def EntRow (w : World) (base : Nat) (v : Value) (qs : List (EntP × Value)) : Prop :=
 w.ownsRow base 48 2 v qs.length (rowEn qs) ∧ ∀ q ∈ qs, ∃ ps, AttRow w base q.2 ps ∧ ps.map (·.1) = q.1.2
theorem EntRow.nil (w : World) (base : Nat) : EntRow w base (.slice none 0 0) [] := ⟨World.ownsRow_nil _ _ _ _, by simp⟩
theorem EntRow.keep {w w' : World} {base : Nat} {v : Value} {qs : List (EntP × Value)} (h : EntRow w base v qs) (hb : Below w.heap.size w w') : EntRow w' base v qs :=
 ⟨own_below h.1 hb, fun q hq => by obtain ⟨ps, h1, h2⟩ := h.2 q hq; exact ⟨ps, h1.keep hb, h2⟩⟩
theorem EntRow.ents {w : World} {base : Nat} {v : Value} {qs : List (EntP × Value)} {l : List EntP} (h : EntRow w base v qs) (hl : qs.map (·.1) = l) : EntsV w w.heap.size v l := by
 subst hl
 have h0 := h.1
 rw [show qs.length = (qs.map (·.1)).length by simp] at h0
 refine SlV.own h0 fun i x hx => ?_
 rw [List.getElem?_map] at hx
 obtain ⟨q, hq, rfl⟩ := Option.map_eq_some_iff.1 hx
 obtain ⟨e1, e2⟩ := rowEn_at qs i q hq
 obtain ⟨ps, h1, h2⟩ := h.2 q (List.mem_of_getElem? hq)
 refine ⟨[sv q.1.1, q.2], rfl, ⟨q.2, rfl, h1.atts h2⟩, fun j u hj => ?_⟩
 match j, hj with
 | 0, hj => simp at hj; subst hj; exact e1
 | 1, hj => simp at hj; subst hj; exact e2
theorem info_ent : (Tryz.prog.info? 48).map (fun i => (i.zero, i.size, i.bytes)) = some (some (.agg #[.string ⟨#[]⟩, .slice none 0 0]), 2, 40) := by kernel_rfl
end Go.Proofs.YtbkkchhimhlhcaaGreatDoor
