/- Part 17 of the proof that identitylaw08.EntryApplies returns true: the package variables hold what the program lays; nothing else is asked. -/
import Derived.Test.YtoopoglkeeoamaaGreatDoorEap08
import Derived.Sort.OwnSorted
set_option linter.unusedVariables false
set_option linter.unusedSimpArgs false
set_option maxRecDepth 100000
set_option maxHeartbeats 8000000
/- schema.merged: names in lower case, sorted, each once. -/
namespace Go.Proofs.YtoopoglkeeoamaaGreatDoor
open Go.RowKit Go.Sort
open Idn (L B Bs drop_L take_L size_L)
def sorted (l : List Bs) : List Bs := l.mergeSort fun x y => decide (x ≤ y)
def merged (l : List Bs) : List Bs := Lib.compact (sorted (l.map Idn.lower))
theorem own_below {w w' : World} {base : Nat} {e : TypeId} {size : Nat} {v : Value} {n : Nat} {xs : List Value} (h : w.ownsRow base e size v n xs) (hb : Below w.heap.size w w') : w'.ownsRow base e size v n xs := by
 refine ⟨h.1, ?_⟩
 rcases h.2 with hn | ⟨g, cap, cur, rfl, hb', hgg, rest⟩
 ·exact .inl hn
 ·exact .inr ⟨g, cap, cur, rfl, hb', by rw [hb.block g (Array.getElem?_eq_some_iff.1 hgg).1]; exact hgg, rest⟩
theorem merged_any (v : Value) (l : List Bs) (w : World) (hv : StrsV w w.heap.size v l) (hl : l.length ≤ 1000000000) (hs : ∀ x ∈ l, x.length ≤ 1000000000) :
  Calls Tryz.prog 214 #[v] w (RetS w (merged l)) := by
 obtain ⟨A, ca, rfl, hca⟩ := SlV.shape hv
 go_enter Tryz.func214, Tryz.ntmps214
 go_wp2
 go_loopw [3, 5, 8] (fun v _ i wr => ∃ k : Nat, k ≤ l.length ∧ i = .int .i64 k ∧ wr.ownsRow w.heap.size 9 1 v k (((l.take k).map Idn.lower).map sv) ∧ Below w.heap.size w wr) (fun _ _ i _ => l.length - (intOf i).toNat)
 case atStart => exact ⟨0, Nat.zero_le _, rfl, World.ownsRow_nil _ _ _ _, Below.refl _ _⟩
 case round =>
  obtain ⟨k, hk, rfl, hown, hb⟩ := hrel
  by_cases hlt : k < l.length
  ·obtain ⟨b, off, rfl, hbl, c0⟩ := StrsV.cell (SlV.keep hv hb) hlt
   have hsz := hs l[k] (List.getElem_mem hlt)
   have hlow := lower_any (B l[k]) wr (by rw [Idn.size_B]; omega)
   rw [Idn.L_B] at hlow
   have hltI : (k : Int) < (l.length : Int) := by omega
   go_wp2_with fail
   refine hlow.mono ?_
   rintro e w1 ⟨rfl, hb1⟩
   have hown1 := own_below hown hb1
   have hbw1 := hb.trans (hb1.mono hb.size)
   have hbs1 := hbw1.size
   clear hlow hown
   go_wp2_with (at_builtin; refine wpList_push w1 rfl _ _ 45 rfl w.heap.size 9 (.string ⟨#[]⟩) 1 16 Tryz.underlying45 info_str rfl (by decide) _ k _ hown1 rfl [.string (B (Idn.lower l[k]))] rfl rfl (by intro u hu; simp at hu; subst hu; rfl) (by omega) hbs1 ?_ rfl)
   intro v' w1' hown' _ _ hb' _
   clear hown1
   go_wp2
   go_roundw
   case rel =>
    refine ⟨k + 1, by omega, by go_num, ?_, hbw1.trans hb'⟩
    rw [List.take_succ_eq_append_getElem hlt, List.map_append, List.map_append, show List.map sv (List.map Idn.lower (l.take k)) = List.take k (List.map (sv ∘ Idn.lower) l) by simp]
    exact hown'
   case measure => simp [intOf]; omega
  ·have hkl : k = l.length := by omega
   have hltI : ¬ (k : Int) < (l.length : Int) := by omega
   subst hkl
   rw [List.take_length] at hown
   generalize hq : l.map Idn.lower = q at *
   have hql : q.length = l.length := by rw [← hq]; simp
   rw [← hql] at hown
   have hm0 : merged l = Lib.compact (sorted q) := by rw [merged, hq]
   by_cases hpos : q.length = 0
   ·have hq0 : q = [] := List.eq_nil_of_length_eq_zero hpos
    have hl0 : l.length = 0 := by omega
    have hres : merged l = [] := by
     rw [hm0, hq0]
     have h := Lib.compact_length_le (sorted ([] : List Bs))
     have h2 : (sorted ([] : List Bs)).length = 0 := by simp [sorted]
     exact List.eq_nil_of_length_eq_zero (by omega)
    obtain ⟨A3, c3, hu⟩ := own_shape hown
    rw [hpos] at hu
    have hS := Tryz.slices_Sort_string_none A3 c3 wr
    have hC := Tryz.slices_Compact_string_empty A3 c3 wr
    subst hu
    go_wp2_with (first | (go_at_call 67; refine hS.mono ?_; rintro e w1 ⟨rfl, rfl⟩) | (go_at_call 68; refine hC.mono ?_; rintro e w1 ⟨rfl, rfl⟩))
    go_ret
    refine ⟨_, rfl, ?_, hb⟩
    rw [hres]
    rw [hpos, hq0] at hown
    exact hown
   ·rcases hown.2 with ⟨hnil, hn0⟩ | ⟨g, cap, cur, hu, hbase, hbk, h1, h2, h3, h4⟩
    ·omega
    have hh : Holds encStr wr g 0 q.toArray := holds_of_block hbk (by have := h4; rw [Nat.mul_one] at this; exact this)
    have hS := Tryz.slices_Sort_string g 0 cap q wr hh (Array.getElem?_eq_some_iff.1 hbk).1 (by omega)
    have hsl : (sorted q).length = q.length := by simp [sorted]
    have hU : ∀ w2, (∃ n os, w2 = grow (putRow encStr (Go.Sort.ahead wr n) g 0 (sorted q).toArray) os) → w2.ownsRow w.heap.size 9 1 (.slice (some ⟨g, 0, none⟩) q.length cap) q.length ((sorted q).map encStr) ∧ Below w.heap.size w w2 := by
     rintro w2 ⟨n, os, rfl⟩
     exact ⟨ownsRow_sorted hsl hbase hbk h1 h2 h3, hb.grown (grownBy_sorted _) hb.size (by intro k hk; cases hk; exact hbase)⟩
    rw [hql] at hu hS
    subst hu
    clear hbk h3 h4 hh hown
    go_wp2_with fail
    refine hS.mono ?_
    rintro e w2 ⟨rfl, hw2⟩
    obtain ⟨hown2, hb2⟩ := hU w2 hw2
    clear hU hS hw2 hb
    rcases hown2.2 with ⟨hnil, hn0⟩ | ⟨g', cap', cur, hu, hbase', hbk, h1', h2', h3, h4⟩
    ·omega
    injection hu with hu1 hu2 hu3
    injection hu1 with hu1
    injection hu1 with hu1
    subst hu1 hu3
    have hh : Holds encStr w2 g 0 (sorted q).toArray := holds_of_block hbk (by have := h4; rw [Nat.mul_one, ← hsl] at this; exact this)
    have hC := Tryz.slices_Compact_string g 0 cap (sorted q) w2 hh (by omega) (by omega)
    have hcl := Lib.compact_length_le (sorted q)
    have hU : ∀ w3, (∃ n, w3 = putRow encStr (Go.Sort.ahead w2 n) g 0 (Lib.compact (sorted q) ++ List.replicate ((sorted q).length - (Lib.compact (sorted q)).length) []).toArray) → w3.ownsRow w.heap.size 9 1 (.slice (some ⟨g, 0, none⟩) (Lib.compact (sorted q)).length cap) (Lib.compact (sorted q)).length ((Lib.compact (sorted q)).map sv) ∧ Below w.heap.size w w3 := by
     rintro w3 ⟨n, rfl⟩
     have e0 := (grow_empty (putRow encStr (Go.Sort.ahead w2 n) g 0 (Lib.compact (sorted q) ++ List.replicate ((sorted q).length - (Lib.compact (sorted q)).length) []).toArray)).symm
     rw [e0]
     have hlen : (Lib.compact (sorted q) ++ List.replicate ((sorted q).length - (Lib.compact (sorted q)).length) []).length = q.length := by simp; omega
     refine ⟨⟨by simp, .inr ⟨g, cap, _, rfl, hbase, heap_sorted _ hbk, by omega, h2, by simp [putCells, h3], ?_⟩⟩, hb2.grown (grownBy_sorted _) hb2.size (by intro k hk; cases hk; exact hbase)⟩
     have ht := take_putCells cur (Lib.compact (sorted q) ++ List.replicate ((sorted q).length - (Lib.compact (sorted q)).length) []) (by omega)
     have ht2 := congrArg (List.take (Lib.compact (sorted q)).length) ht
     rw [List.take_take, Nat.min_eq_left (by simp), ← List.map_take, List.take_left'  rfl] at ht2
     rw [Nat.mul_one]
     exact ht2
    rw [hsl, hql] at hC
    clear hown2 hbk h3 h4 hh
    go_wp2_with (go_at_call 68; refine hC.mono ?_; rintro e w3 ⟨rfl, hw3⟩)
    rw [hsl] at hU
    rw [hql] at hU
    obtain ⟨hown3, hb3⟩ := hU w3 hw3
    go_ret
    exact ⟨_, rfl, by rw [hm0]; exact hown3, hb3⟩
end Go.Proofs.YtoopoglkeeoamaaGreatDoor
