/- Part 39 of the proof that identitylaw11.IndexCandidates returns true for every data that it may be called with: proof: the package variables hold what the program lays; nothing else is asked. -/
import Derived.Test.YtbkkchhimhlhcaaGreatDoorIcd37
import Derived.Test.YtbkkchhimhlhcaaGreatDoorIcd38
set_option linter.unusedVariables false
set_option linter.unusedSimpArgs false
set_option maxRecDepth 100000
set_option maxHeartbeats 16000000
/- What the rows of identitylaw08 share: entries, strings handed over. -/
namespace Go.Proofs.YtbkkchhimhlhcaaGreatDoor
open Go.RowKit Go.Sort Go.ChangeShapes Go.WideShapes Go.ChangeAt
open Idn (L B Bs)
section
variable {H : Type} {enc : TypeId × Value → H} {W : World}
end
end Go.Proofs.YtbkkchhimhlhcaaGreatDoor
/- What the second form's bound gives: arguments of small bulk read as short lists of short strings. -/
namespace Go.Proofs.YtbkkchhimhlhcaaGreatDoor
open Go.RowKit Go.Sort Go.ChangeShapes Go.WideShapes Go.ChangeAt
open Idn (L B Bs)
section
variable {H : Type}
theorem bk_one (d : DataW H) : 1 ≤ Rows.uptoBulk d := by
 cases d with
 | lit l => cases l <;> simp [Rows.uptoBulk]
 | nil => simp [Rows.uptoBulk]
 | ptr d => simp [Rows.uptoBulk]
 | slice elems spare => simp [Rows.uptoBulk]
 | agg parts => simp [Rows.uptoBulk]
 | iface t d => simp [Rows.uptoBulk]
 | map entries => simp [Rows.uptoBulk]
 | held h => simp [Rows.uptoBulk]
theorem bk_part {d : DataW H} {l : List (DataW H)} (h : d ∈ l) : Rows.uptoBulk d ≤ Rows.uptoBulkAll l := by
 induction l with
 | nil => cases h
 | cons x r ih =>
  simp only [Rows.uptoBulkAll]
  cases List.mem_cons.1 h with
  | inl e => subst e; omega
  | inr e => have := ih e; omega
theorem bk_len (l : List (DataW H)) : l.length ≤ Rows.uptoBulkAll l := by
 induction l with
 | nil => simp [Rows.uptoBulkAll]
 | cons x r ih => have := bk_one x; simp only [Rows.uptoBulkAll, List.length_cons]; omega
theorem bk_slice (elems spare : List (DataW H)) : Rows.uptoBulkAll elems ≤ Rows.uptoBulk (.slice elems spare) := by
 simp only [Rows.uptoBulk]; omega
theorem bk_str (bytes : List UInt8) : bytes.length ≤ Rows.uptoBulk (DataW.lit (H := H) (.string bytes)) := by
 simp [Rows.uptoBulk]
theorem bk_agg {d : DataW H} {parts : List (DataW H)} (h : d ∈ parts) : Rows.uptoBulk d ≤ Rows.uptoBulk (.agg parts) := by
 have := bk_part h
 simp only [Rows.uptoBulk]; omega
theorem bk_bound {l : List (DataW H)} (hk : Rows.uptoSmall H l = true) : ∀ d ∈ l, Rows.uptoBulk d ≤ 1048576 := by
 have h : Rows.uptoBulkAll l ≤ 1048576 := of_decide_eq_true hk
 intro d hd
 exact Nat.le_trans (bk_part hd) h
end
def GS (l : List Bs) (n : Nat) : Prop := l.length ≤ n ∧ ∀ x ∈ l, x.length ≤ n
theorem GS.mono {l : List Bs} {n m : Nat} (h : GS l n) (hn : n ≤ m) : GS l m := ⟨Nat.le_trans h.1 hn, fun x hx => Nat.le_trans (h.2 x hx) hn⟩
def GA (a : Idn.Att) (n : Nat) : Prop := a.name.length ≤ n ∧ GS a.vals n
def GM (a : Md) (n : Nat) : Prop := a.name.length ≤ n ∧ GS a.vals n
def GC (c : Idn.Cl) (n : Nat) : Prop := c.name.length ≤ n ∧ c.super.length ≤ n ∧ GS c.must n ∧ GS c.may n
def GAs (l : List Idn.Att) (n : Nat) : Prop := l.length ≤ n ∧ ∀ a ∈ l, GA a n
def GMs (l : List Md) (n : Nat) : Prop := l.length ≤ n ∧ ∀ a ∈ l, GM a n
def GSch (s : Idn.Sch) (n : Nat) : Prop := (s.types.length ≤ n ∧ ∀ t ∈ s.types, t.name.length ≤ n) ∧ s.classes.length ≤ n ∧ ∀ c ∈ s.classes, GC c n
theorem GA.mono {a : Idn.Att} {n m : Nat} (h : GA a n) (hn : n ≤ m) : GA a m := ⟨Nat.le_trans h.1 hn, h.2.mono hn⟩
theorem GM.mono {a : Md} {n m : Nat} (h : GM a n) (hn : n ≤ m) : GM a m := ⟨Nat.le_trans h.1 hn, h.2.mono hn⟩
theorem GC.mono {a : Idn.Cl} {n m : Nat} (h : GC a n) (hn : n ≤ m) : GC a m := ⟨Nat.le_trans h.1 hn, Nat.le_trans h.2.1 hn, h.2.2.1.mono hn, h.2.2.2.mono hn⟩
theorem GAs.mono {a : List Idn.Att} {n m : Nat} (h : GAs a n) (hn : n ≤ m) : GAs a m := ⟨Nat.le_trans h.1 hn, fun x hx => (h.2 x hx).mono hn⟩
theorem GMs.mono {a : List Md} {n m : Nat} (h : GMs a n) (hn : n ≤ m) : GMs a m := ⟨Nat.le_trans h.1 hn, fun x hx => (h.2 x hx).mono hn⟩
theorem GSch.mono {s : Idn.Sch} {n m : Nat} (h : GSch s n) (hn : n ≤ m) : GSch s m := ⟨⟨Nat.le_trans h.1.1 hn, fun x hx => Nat.le_trans (h.1.2 x hx) hn⟩, Nat.le_trans h.2.1 hn, fun x hx => (h.2.2 x hx).mono hn⟩
theorem GSch.ssm {s : Idn.Sch} {n : Nat} (h : GSch s n) (hn : n ≤ 1000000000) : SSm s := by
 obtain ⟨⟨h1, h2⟩, h3, h4⟩ := h
 refine ⟨⟨by omega, fun t ht => by have := h2 t ht; omega⟩, ⟨by omega, fun c hc => ?_⟩⟩
 obtain ⟨g1, g2, g3, g4⟩ := h4 c hc
 exact ⟨by omega, by omega, ⟨by have := g3.1; omega, fun x hx => by have := g3.2 x hx; omega⟩, ⟨by have := g4.1; omega, fun x hx => by have := g4.2 x hx; omega⟩⟩
section
variable {H : Type} {enc : TypeId × Value → H} {W : World}
theorem strs_openB {fuel : Nat} {v : Value} {x : DataW H × List MemPlace} (h : DataW.trod enc Tryz.prog W 0 (fun _ => true) true fuel 26 [v] = some x) : ∃ l, StrsV W W.heap.size v l ∧ GS l (Rows.uptoBulk x.1) := by
 rcases open_strings Tryz.underlying26 Tryz.underlying9 cellsOf_string h with ⟨hcs, hx⟩ | ⟨a, len, cap, ss, hcs, _, hl, hm, hz, hx, hcell, _⟩
 ·simp at hcs
  subst hcs
  exact ⟨[], SlV.nil _ _ _ _, by simp, by simp⟩
 ·simp at hcs
  subst hcs
  simp only [if_true] at hz
  obtain ⟨b, off, spot⟩ := a
  have hlen : ((ss.take len).map L).length = len := by simp; omega
  refine ⟨(ss.take len).map L, ?_, ?_⟩
  case refine_2 =>
   subst hx
   have k1 := bk_slice (H := H) (strs (ss.take len)) (strs (ss.drop len))
   refine ⟨?_, fun y hy => ?_⟩
   ·have k2 := bk_len (H := H) (strs (ss.take len))
    rw [List.length_map]
    simp only [strs, List.length_map] at k2
    exact Nat.le_trans k2 k1
   ·obtain ⟨t, ht, rfl⟩ := List.mem_map.1 hy
    have k3 : (DataW.lit (.string t.data.toList) : DataW H) ∈ strs (ss.take len) := List.mem_map.2 ⟨t, ht, rfl⟩
    exact Nat.le_trans (bk_str (H := H) _) (Nat.le_trans (bk_part k3) k1)
  refine ⟨some ⟨b, off, spot⟩, cap, by rw [hlen], by rw [hlen]; exact hl, fun hp => ?_⟩
  rw [hlen] at hp
  have hspot : spot = none := by simpa [Addr.add] using World.cell?_spot (hcell 0 (by omega))
  subst hspot
  refine ⟨b, off, rfl, World.block_lt_of_cell? _ _ (hcell 0 (by omega)), fun i y hy => ?_⟩
  rw [List.getElem?_map] at hy
  obtain ⟨t, ht, rfl⟩ := Option.map_eq_some_iff.1 hy
  refine ⟨[sv (L t)], rfl, rfl, fun j u hj => ?_⟩
  match j, hj with
  | 0, hj =>
   simp at hj; subst hj
   have hil : i < len := by
    have := (List.getElem?_eq_some_iff.1 ht).1
    simp at this; omega
   have := hcell i (by omega)
   rw [add_plain] at this
   rw [Nat.mul_one, Nat.add_zero, this]
   rw [List.getElem?_take_of_lt hil] at ht
   simp [sv, Idn.B_L, List.getD, ht]
theorem sl_openB {α : Type} {E : α → List Value → Prop} {G : α → Nat → Prop} (hG : ∀ z n m, G z n → n ≤ m → G z m) {size : Nat} {t e : TypeId} {fuel : Nat} {v : Value} {x : DataW H × List MemPlace} (ht : Tryz.prog.underlying t = some (.slice e)) (hsz : Tryz.prog.cellsOf e = size) (hpos : 0 < size)
  (h : DataW.trod enc Tryz.prog W 0 (fun _ => true) true fuel t [v] = some x)
  (hE : ∀ (cs : List Value) (n : Nat) (y : DataW H × List MemPlace), DataW.trod enc Tryz.prog W 0 (fun _ => true) true n e cs = some y → ∃ z : α, cs.length = size ∧ E z cs ∧ G z (Rows.uptoBulk y.1)) : ∃ l, SlV E W W.heap.size size v l ∧ l.length ≤ Rows.uptoBulk x.1 ∧ ∀ z ∈ l, G z (Rows.uptoBulk x.1) := by
 rcases Go.Deep.open_slice ht h with ⟨hcs, hx⟩ | ⟨a, len, cap, m, n, D, Pl, hcs, _, hl, hm, hmm, hx, hel⟩
 ·simp at hcs
  subst hcs
  exact ⟨[], SlV.nil _ _ _ _, by simp, by simp⟩
 ·simp at hcs
  subst hcs
  simp only [if_true] at hmm
  have k1 := bk_slice (H := H) ((List.range len).map D) ((List.range (m - len)).map fun j => D (len + j))
  obtain ⟨l, hl1, hl2⟩ := exList (fun i (z : α) => (∃ cs, W.cells? 0 (a.add (i * size)) size = some cs ∧ cs.length = size ∧ E z cs) ∧ G z (Rows.uptoBulk (.slice ((List.range len).map D) ((List.range (m - len)).map fun j => D (len + j)) : DataW H))) len fun i hi => by
   obtain ⟨cs, h1, h2⟩ := hel i (by omega)
   rw [hsz] at h1
   obtain ⟨z, h3, h4, h5⟩ := hE cs n _ h2
   refine ⟨z, ⟨cs, h1, h3, h4⟩, hG _ _ _ h5 (Nat.le_trans (bk_part ?_) k1)⟩
   exact List.mem_map.2 ⟨i, List.mem_range.2 hi, rfl⟩
  refine ⟨l, ⟨some a, cap, by rw [hl1], by rw [hl1]; exact hl, fun hp => ?_⟩, ?_, ?_⟩
  case refine_2 =>
   subst hx
   have k2 := bk_len (H := H) ((List.range len).map D)
   rw [List.length_map, List.length_range] at k2
   rw [hl1]
   exact Nat.le_trans k2 k1
  case refine_3 =>
   subst hx
   intro z hz
   obtain ⟨i, hi, rfl⟩ := List.getElem_of_mem hz
   exact (hl2 i _ (List.getElem?_eq_getElem hi)).2
  obtain ⟨b, off, spot⟩ := a
  obtain ⟨z0, hz0⟩ : ∃ z, l[0]? = some z := ⟨_, List.getElem?_eq_getElem hp⟩
  obtain ⟨⟨cs0, h0, h0l, _⟩, _⟩ := hl2 0 z0 hz0
  have hc0 := (World.cells?_some h0).2.2 0 (by omega)
  have hv0 : ∃ u, cs0[0]? = some u := ⟨_, List.getElem?_eq_getElem (by omega)⟩
  obtain ⟨u0, hu0⟩ := hv0
  rw [hu0] at hc0
  have hspot : spot = none := by simpa [Addr.add] using World.cell?_spot hc0
  subst hspot
  rw [add_plain, add_plain] at hc0
  refine ⟨b, off, rfl, World.block_lt_of_cell? _ _ hc0, fun i z hz => ?_⟩
  obtain ⟨⟨cs, h1, h2, h3⟩, _⟩ := hl2 i z hz
  refine ⟨cs, h2, h3, fun j u hj => ?_⟩
  have hjl := (List.getElem?_eq_some_iff.1 hj).1
  have := (World.cells?_some h1).2.2 j (by omega)
  rw [hj, add_plain, add_plain] at this
  rw [← Nat.add_assoc]; exact this
theorem bk_a2 (a b : DataW H) : Rows.uptoBulk a ≤ Rows.uptoBulk (.agg [a, b]) ∧ Rows.uptoBulk b ≤ Rows.uptoBulk (.agg [a, b]) := ⟨bk_agg (by simp), bk_agg (by simp)⟩
theorem bk_a3 (a b c : DataW H) : Rows.uptoBulk a ≤ Rows.uptoBulk (.agg [a, b, c]) ∧ Rows.uptoBulk b ≤ Rows.uptoBulk (.agg [a, b, c]) ∧ Rows.uptoBulk c ≤ Rows.uptoBulk (.agg [a, b, c]) := ⟨bk_agg (by simp), bk_agg (by simp), bk_agg (by simp)⟩
theorem bk_a4 (a b c d : DataW H) : Rows.uptoBulk a ≤ Rows.uptoBulk (.agg [a, b, c, d]) ∧ Rows.uptoBulk b ≤ Rows.uptoBulk (.agg [a, b, c, d]) ∧ Rows.uptoBulk c ≤ Rows.uptoBulk (.agg [a, b, c, d]) ∧ Rows.uptoBulk d ≤ Rows.uptoBulk (.agg [a, b, c, d]) := ⟨bk_agg (by simp), bk_agg (by simp), bk_agg (by simp), bk_agg (by simp)⟩
theorem bk_of {x : ByteArray} {y : DataW H × List MemPlace} (h : y = (.lit (.string x.data.toList), [])) : (L x).length ≤ Rows.uptoBulk y.1 := by
 subst h
 exact bk_str (H := H) _
theorem types_openB {fuel : Nat} {v : Value} {x : DataW H × List MemPlace} (h : DataW.trod enc Tryz.prog W 0 (fun _ => true) true fuel 22 [v] = some x) : ∃ l, TypesV W W.heap.size v l ∧ l.length ≤ Rows.uptoBulk x.1 ∧ ∀ t ∈ l, t.name.length ≤ Rows.uptoBulk x.1 := by
 refine sl_openB (E := ET) (G := fun t n => t.name.length ≤ n) (fun _ _ _ h1 h2 => Nat.le_trans h1 h2) Tryz.underlying22 cellsOf_AT (by decide) h fun cs n y hy => ?_
 obtain ⟨y0, y1, y2, m, hyy, hl, h0, h1, h2⟩ := Go.Deep.trod_struct3 Tryz.underlying89 hy
 rw [cellsOf_AT] at hl
 match cs, hl with
 | [a, b, c], _ =>
  obtain ⟨s, e0, f0, _⟩ := DataW.trod_string Tryz.underlying9 h0
  obtain ⟨k, e1, _, _⟩ := DataW.trod_int Tryz.underlying87 h1
  obtain ⟨d, e2, _⟩ := DataW.trod_bool Tryz.underlying4 h2
  simp [cellsOf_string] at e0
  simp [cellsOf_syn] at e1
  simp [cellsOf_bool] at e2
  subst e0 e1 e2
  refine ⟨⟨L s, k, d⟩, rfl, by simp [ET, sv, Idn.B_L], ?_⟩
  subst hyy
  exact Nat.le_trans (bk_of f0) (bk_a3 _ _ _).1
theorem classes_openB {fuel : Nat} {v : Value} {x : DataW H × List MemPlace} (h : DataW.trod enc Tryz.prog W 0 (fun _ => true) true fuel 23 [v] = some x) : ∃ l, ClassesV W W.heap.size v l ∧ l.length ≤ Rows.uptoBulk x.1 ∧ ∀ c ∈ l, GC c (Rows.uptoBulk x.1) := by
 refine sl_openB (E := EC W W.heap.size) (G := GC) (fun _ _ _ h1 h2 => h1.mono h2) Tryz.underlying23 cellsOf_CL (by decide) h fun cs n y hy => ?_
 obtain ⟨y0, y1, y2, y3, m, hyy, hl, h0, h1, h2, h3⟩ := Go.Joins.trod_struct4 Tryz.underlying91 hy
 rw [cellsOf_CL] at hl
 match cs, hl with
 | [a, b, c, d], _ =>
  obtain ⟨s, e0, f0, _⟩ := DataW.trod_string Tryz.underlying9 h0
  obtain ⟨t, e1, f1, _⟩ := DataW.trod_string Tryz.underlying9 h1
  simp [cellsOf_string] at e0 e1
  subst e0 e1
  have h2' : DataW.trod enc Tryz.prog W 0 (fun _ => true) true m 26 [c] = some y2 := by simpa [cellsOf_strs] using h2
  have h3' : DataW.trod enc Tryz.prog W 0 (fun _ => true) true m 26 [d] = some y3 := by simpa [cellsOf_strs] using h3
  obtain ⟨l2, a1, a2⟩ := strs_openB h2'
  obtain ⟨l3, b1, b2⟩ := strs_openB h3'
  subst hyy
  obtain ⟨k0, k1, k2, k3⟩ := bk_a4 y0.1 y1.1 y2.1 y3.1
  exact ⟨⟨L s, L t, l2, l3⟩, rfl, ⟨c, d, by simp [sv, Idn.B_L], a1, b1⟩, Nat.le_trans (bk_of f0) k0, Nat.le_trans (bk_of f1) k1, a2.mono k2, b2.mono k3⟩
theorem schema_openB {r : Reach} {b0 : Nat} {v : Value} {d : DataW H} {p : List MemPlace} (hv : Value.okWide Tryz.prog W r b0 25 v) (h : DataW.Trod enc Tryz.prog W 0 (fun _ => true) true 25 v d p) : ∃ s, SchV W W.heap.size v s ∧ GSch s (Rows.uptoBulk d) := by
 obtain ⟨v0, v1, y0, y1, n, rfl, rfl, _, h0, h1⟩ := Go.Joins.open_agg2 Tryz.underlying25 (by kernel_rfl) (by kernel_rfl) hv h
 obtain ⟨l0, a1, a2, a3⟩ := types_openB h0
 obtain ⟨l1, b1, b2, b3⟩ := classes_openB h1
 obtain ⟨k0, k1⟩ := bk_a2 y0.1 y1.1
 exact ⟨⟨l0, l1⟩, ⟨v0, v1, rfl, a1, b1⟩, ⟨Nat.le_trans a2 k0, fun t ht => Nat.le_trans (a3 t ht) k0⟩, Nat.le_trans b2 k1, fun c hc => by
  obtain ⟨g1, g2, g3, g4⟩ := b3 c hc
  exact ⟨Nat.le_trans g1 k1, Nat.le_trans g2 k1, g3.mono k1, g4.mono k1⟩⟩
theorem atts_openB {fuel : Nat} {v : Value} {x : DataW H × List MemPlace} (h : DataW.trod enc Tryz.prog W 0 (fun _ => true) true fuel 46 [v] = some x) : ∃ l, AttsV W W.heap.size v l ∧ GAs l (Rows.uptoBulk x.1) := by
 refine sl_openB (E := EA W W.heap.size) (G := GA) (fun _ _ _ h1 h2 => h1.mono h2) Tryz.underlying46 cellsOf_Att (by decide) h fun cs n y hy => ?_
 obtain ⟨y0, y1, m, hyy, hl, h0, h1⟩ := trod_struct2 Tryz.underlying96 hy
 rw [cellsOf_Att] at hl
 match cs, hl with
 | [a, b], _ =>
  obtain ⟨s, e0, f0, _⟩ := DataW.trod_string Tryz.underlying9 h0
  simp [cellsOf_string] at e0
  subst e0
  have h1' : DataW.trod enc Tryz.prog W 0 (fun _ => true) true m 26 [b] = some y1 := by simpa [cellsOf_string, cellsOf_strs] using h1
  obtain ⟨l2, a1, a2⟩ := strs_openB h1'
  subst hyy
  obtain ⟨k0, k1⟩ := bk_a2 y0.1 y1.1
  exact ⟨⟨L s, l2⟩, rfl, ⟨b, by simp [sv, Idn.B_L], a1⟩, Nat.le_trans (bk_of f0) k0, a2.mono k1⟩
end
end Go.Proofs.YtbkkchhimhlhcaaGreatDoor
/- The second form's bound at entries, at filters, at the cases of identitylaw11. -/
namespace Go.Proofs.YtbkkchhimhlhcaaGreatDoor
open Go.RowKit Go.Sort Go.ChangeShapes Go.WideShapes Go.ChangeAt
open Idn (L B Bs)
def GE (x : EntP) (n : Nat) : Prop := x.1.length ≤ n ∧ GAs x.2 n
theorem GE.mono {x : EntP} {n m : Nat} (h : GE x n) (hn : n ≤ m) : GE x m := ⟨Nat.le_trans h.1 hn, h.2.mono hn⟩
mutual
def fG (n : Nat) : Flt → Prop
 | .mk _ a v ps ks => a.length ≤ n ∧ v.length ≤ n ∧ GS ps n ∧ ks.length ≤ n ∧ fGs n ks
def fGs (n : Nat) : List Flt → Prop
 | [] => True
 | f :: l => fG n f ∧ fGs n l
end
theorem fGs_all {n : Nat} {l : List Flt} : fGs n l ↔ ∀ f ∈ l, fG n f := by
 induction l with
 | nil => simp [fGs]
 | cons f l ih => simp [fGs, ih]
theorem fG_mono {n m : Nat} (hn : n ≤ m) (f : Flt) : fG n f → fG m f := by
 induction f using Flt.ind with
 | h k a v ps ks ih =>
  intro h
  rw [fG] at h ⊢
  obtain ⟨h1, h2, h3, h4, h5⟩ := h
  exact ⟨Nat.le_trans h1 hn, Nat.le_trans h2 hn, h3.mono hn, Nat.le_trans h4 hn, fGs_all.2 fun g hg => ih g hg (fGs_all.1 h5 g hg)⟩
section
variable {H : Type} {enc : TypeId × Value → H} {W : World}
theorem sl_openBN {α : Type} {E : α → List Value → Prop} {G : α → Nat → Prop} (hG : ∀ z n m, G z n → n ≤ m → G z m) {size : Nat} {t e : TypeId} {fuel : Nat} {v : Value} {x : DataW H × List MemPlace} (ht : Tryz.prog.underlying t = some (.slice e)) (hsz : Tryz.prog.cellsOf e = size) (hpos : 0 < size)
  (h : DataW.trod enc Tryz.prog W 0 (fun _ => true) true fuel t [v] = some x)
  (hE : ∀ (cs : List Value) (n : Nat) (y : DataW H × List MemPlace), n < fuel → DataW.trod enc Tryz.prog W 0 (fun _ => true) true n e cs = some y → ∃ z : α, cs.length = size ∧ E z cs ∧ G z (Rows.uptoBulk y.1)) : ∃ l, SlV E W W.heap.size size v l ∧ l.length ≤ Rows.uptoBulk x.1 ∧ ∀ z ∈ l, G z (Rows.uptoBulk x.1) := by
 rcases DataW.trod_slice ht h with ⟨hcs, hx⟩ | ⟨a, len, cap, elems, rest, n, hfu, hcs, hx, _, hl, hm, hlen, hel, _, _⟩
 ·simp at hcs
  subst hcs
  exact ⟨[], SlV.nil _ _ _ _, by simp, by simp⟩
 ·simp at hcs
  subst hcs
  have k1 := bk_slice (H := H) (elems.map (·.1)) (rest.map (·.1))
  obtain ⟨l, hl1, hl2⟩ := exList (fun i (z : α) => (∃ cs, W.cells? 0 (a.add (i * size)) size = some cs ∧ cs.length = size ∧ E z cs) ∧ G z (Rows.uptoBulk (.slice (elems.map (·.1)) (rest.map (·.1)) : DataW H))) len fun i hi => by
   have h1 := hel i hi
   rw [hsz, List.getElem?_eq_getElem (by omega)] at h1
   obtain ⟨cs, h3, h4⟩ := Option.bind_eq_some_iff.1 h1
   obtain ⟨z, h5, h6, h7⟩ := hE cs n _ (by omega) h4
   exact ⟨z, ⟨cs, h3, h5, h6⟩, hG _ _ _ h7 (Nat.le_trans (bk_part (List.mem_map.2 ⟨_, List.getElem_mem (by omega), rfl⟩)) k1)⟩
  refine ⟨l, ⟨some a, cap, by rw [hl1], by rw [hl1]; exact hl, fun hp => ?_⟩, ?_, ?_⟩
  case refine_2 =>
   subst hx
   have k2 := bk_len (H := H) (elems.map (·.1))
   rw [List.length_map] at k2
   rw [hl1, ← hlen]
   exact Nat.le_trans k2 k1
  case refine_3 =>
   subst hx
   intro z hz
   obtain ⟨i, hi, rfl⟩ := List.getElem_of_mem hz
   exact (hl2 i _ (List.getElem?_eq_getElem hi)).2
  obtain ⟨b, off, spot⟩ := a
  obtain ⟨z0, hz0⟩ : ∃ z, l[0]? = some z := ⟨_, List.getElem?_eq_getElem hp⟩
  obtain ⟨⟨cs0, h0, h0l, _⟩, _⟩ := hl2 0 z0 hz0
  have hc0 := (World.cells?_some h0).2.2 0 (by omega)
  have hv0 : ∃ u, cs0[0]? = some u := ⟨_, List.getElem?_eq_getElem (by omega)⟩
  obtain ⟨u0, hu0⟩ := hv0
  rw [hu0] at hc0
  have hspot : spot = none := by simpa [Addr.add] using World.cell?_spot hc0
  subst hspot
  rw [add_plain, add_plain] at hc0
  refine ⟨b, off, rfl, World.block_lt_of_cell? _ _ hc0, fun i z hz => ?_⟩
  obtain ⟨⟨cs, h1, h2, h3⟩, _⟩ := hl2 i z hz
  refine ⟨cs, h2, h3, fun j u hj => ?_⟩
  have hjl := (List.getElem?_eq_some_iff.1 hj).1
  have := (World.cells?_some h1).2.2 j (by omega)
  rw [hj, add_plain, add_plain] at this
  rw [← Nat.add_assoc]; exact this
theorem cellsOf_Ent : Tryz.prog.cellsOf 48 = 2 := by kernel_rfl
theorem cellsOf_atts : Tryz.prog.cellsOf 46 = 1 := by kernel_rfl
theorem entries_openB {fuel : Nat} {v : Value} {x : DataW H × List MemPlace} (h : DataW.trod enc Tryz.prog W 0 (fun _ => true) true fuel 27 [v] = some x) : ∃ l, EntsV W W.heap.size v l ∧ l.length ≤ Rows.uptoBulk x.1 ∧ ∀ e ∈ l, GE e (Rows.uptoBulk x.1) := by
 refine sl_openB (E := EEn W W.heap.size) (G := GE) (fun _ _ _ h1 h2 => h1.mono h2) Tryz.underlying27 cellsOf_Ent (by decide) h fun cs n y hy => ?_
 obtain ⟨y0, y1, m, hyy, hl, h0, h1⟩ := trod_struct2 Tryz.underlying48 hy
 rw [cellsOf_Ent] at hl
 match cs, hl with
 | [a, b], _ =>
  obtain ⟨s, e0, f0, _⟩ := DataW.trod_string Tryz.underlying9 h0
  simp [cellsOf_string] at e0
  subst e0
  have h1' : DataW.trod enc Tryz.prog W 0 (fun _ => true) true m 46 [b] = some y1 := by simpa [cellsOf_string, cellsOf_atts] using h1
  obtain ⟨l2, a1, a2⟩ := atts_openB h1'
  subst hyy
  obtain ⟨k0, k1⟩ := bk_a2 y0.1 y1.1
  exact ⟨(L s, l2), rfl, ⟨b, by simp [sv, Idn.B_L], a1⟩, Nat.le_trans (bk_of f0) k0, a2.mono k1⟩
theorem flt_openB : ∀ (fuel : Nat) (cs : List Value) (x : DataW H × List MemPlace), DataW.trod enc Tryz.prog W 0 (fun _ => true) true fuel 31 cs = some x → ∃ f, cs.length = 5 ∧ FltC W W.heap.size fuel f cs ∧ fG (Rows.uptoBulk x.1) f := by
 intro fuel
 induction fuel using Nat.strongRecOn with
 | _ fuel ih =>
 intro cs x h
 obtain ⟨xs, n, rfl, rfl, hl, hxs, hf⟩ := DataW.trod_struct Tryz.underlying31 h
 rw [cellsOf_Flt] at hl
 match cs, hl with
 | [a, b, c, d, e], _ =>
 match xs, hxs with
 | [y0, y1, y2, y3, y4], _ =>
 have h0 : DataW.trod enc Tryz.prog W 0 (fun _ => true) true n 28 [a] = some y0 := by have := hf 0 _ rfl; simpa [cellsOf_kind] using this
 have h1 : DataW.trod enc Tryz.prog W 0 (fun _ => true) true n 9 [b] = some y1 := by have := hf 1 _ rfl; simpa [cellsOf_string] using this
 have h2 : DataW.trod enc Tryz.prog W 0 (fun _ => true) true n 9 [c] = some y2 := by have := hf 2 _ rfl; simpa [cellsOf_string] using this
 have h3 : DataW.trod enc Tryz.prog W 0 (fun _ => true) true n 26 [d] = some y3 := by have := hf 3 _ rfl; simpa [cellsOf_strs] using this
 have h4 : DataW.trod enc Tryz.prog W 0 (fun _ => true) true n 29 [e] = some y4 := by have := hf 4 _ rfl; simpa [cellsOf_flts] using this
 obtain ⟨k, e0, _, _⟩ := DataW.trod_int Tryz.underlying28 h0
 obtain ⟨s1, e1, f1, _⟩ := DataW.trod_string Tryz.underlying9 h1
 obtain ⟨s2, e2, f2, _⟩ := DataW.trod_string Tryz.underlying9 h2
 obtain ⟨ps, hp, hpl⟩ := strs_openB h3
 obtain ⟨ks, hk, hkl, hkx⟩ := sl_openBN (E := FltC W W.heap.size n) (G := fun f n => fG n f) (fun z n m h1 h2 => fG_mono h2 z h1) Tryz.underlying29 cellsOf_Flt (by decide) h4 fun cs m y hm hy => by
  obtain ⟨g, g1, g2, g3⟩ := ih m (by omega) cs y hy
  exact ⟨g, g1, FltC.deep (by omega) g2, g3⟩
 simp at e0 e1 e2
 subst e0 e1 e2
 have hb : ∀ y ∈ [y0, y1, y2, y3, y4], Rows.uptoBulk y.1 ≤ Rows.uptoBulk (.agg [y0.1, y1.1, y2.1, y3.1, y4.1] : DataW H) := fun y hy => bk_agg (by
  simp at hy
  rcases hy with rfl | rfl | rfl | rfl | rfl <;> simp)
 refine ⟨.mk k (L s1) (L s2) ps ks, rfl, ⟨d, e, rfl, hp, hk⟩, ?_⟩
 show fG (Rows.uptoBulk (.agg [y0.1, y1.1, y2.1, y3.1, y4.1] : DataW H)) _
 rw [fG]
 exact ⟨Nat.le_trans (bk_of f1) (hb y1 (by simp)), Nat.le_trans (bk_of f2) (hb y2 (by simp)), hpl.mono (hb y3 (by simp)), Nat.le_trans hkl (hb y4 (by simp)), fGs_all.2 fun g hg => fG_mono (hb y4 (by simp)) g (hkx g hg)⟩
end
end Go.Proofs.YtbkkchhimhlhcaaGreatDoor
/- The second form's bound at the cases of identitylaw11. -/
namespace Go.Proofs.YtbkkchhimhlhcaaGreatDoor
open Go.RowKit Go.Sort Go.ChangeShapes Go.WideShapes Go.ChangeAt
open Idn (L B Bs)
section
variable {H : Type} {enc : TypeId × Value → H} {W : World}
theorem cellsOf_Case : Tryz.prog.cellsOf 33 = 6 := by kernel_rfl
theorem cellsOf_ents : Tryz.prog.cellsOf 27 = 1 := by kernel_rfl
theorem case_openB {r : Reach} {b0 : Nat} {v : Value} {d : DataW H} {p : List MemPlace} (hv : Value.okWide Tryz.prog W r b0 33 v) (h : DataW.Trod enc Tryz.prog W 0 (fun _ => true) true 33 v d p) :
    ∃ ev pv kv es n f, v = .agg #[ev, .int .i64 f.kind, .string (B f.name), .string (B f.value), pv, kv] ∧ EntsV W W.heap.size ev es ∧ (es.length ≤ Rows.uptoBulk d ∧ ∀ e ∈ es, GE e (Rows.uptoBulk d)) ∧ FltV W W.heap.size n (.agg #[.int .i64 f.kind, .string (B f.name), .string (B f.value), pv, kv]) f ∧ fG (Rows.uptoBulk d) f := by
 obtain ⟨cs, rfl, hsz⟩ := okWide_struct Tryz.underlying33 hv
 obtain ⟨fuel, hf⟩ := h
 have hf' : DataW.trod enc Tryz.prog W 0 (fun _ => true) true fuel 33 cs.toList = some (d, p) := by simpa [Value.cells] using hf
 obtain ⟨y0, y1, m, hyy, hl, h0, h1⟩ := trod_struct2 Tryz.underlying33 hf'
 rw [cellsOf_Case] at hl
 obtain ⟨l⟩ := cs
 dsimp only at hl h0 h1
 match l, hl with
 | [a0, a1, a2, a3, a4, a5], _ =>
  have h0' : DataW.trod enc Tryz.prog W 0 (fun _ => true) true m 27 [a0] = some y0 := by simpa [cellsOf_ents] using h0
  have h1' : DataW.trod enc Tryz.prog W 0 (fun _ => true) true m 31 [a1, a2, a3, a4, a5] = some y1 := by simpa [cellsOf_ents, cellsOf_Flt] using h1
  obtain ⟨es, g1, g2, g3⟩ := entries_openB h0'
  obtain ⟨f, _, e2, e3⟩ := flt_openB m _ _ h1'
  cases m with
  | zero => exact e2.elim
  | succ n =>
   obtain ⟨pv, kv, e, hp, hk⟩ := e2
   simp only [List.cons.injEq, and_true] at e
   obtain ⟨rfl, rfl, rfl, rfl, rfl⟩ := e
   injection hyy with hd hp'
   subst hd
   obtain ⟨k0, k1⟩ := bk_a2 y0.1 y1.1
   exact ⟨a0, _, _, es, n, f, rfl, g1, ⟨Nat.le_trans g2 k0, fun e he => (g3 e he).mono k0⟩, ⟨_, _, rfl, hp, hk⟩, fG_mono k1 f e3⟩
end
end Go.Proofs.YtbkkchhimhlhcaaGreatDoor
/- The second form's bound at lists, at the asks of identitylaw11. -/
namespace Go.Proofs.YtbkkchhimhlhcaaGreatDoor
open Go.RowKit Go.Sort Go.ChangeShapes Go.WideShapes Go.ChangeAt
open Idn (L B Bs)
section
variable {H : Type} {enc : TypeId × Value → H} {W : World}
theorem slice_openG {t e : TypeId} {r : Reach} {b0 : Nat} {v : Value} {d : DataW H} {p : List MemPlace} (ht : Tryz.prog.underlying t = some (.slice e)) (hv : Value.okWide Tryz.prog W r b0 t v) (h : DataW.Trod enc Tryz.prog W 0 (fun _ => true) true t v d p) : ∃ fuel, DataW.trod enc Tryz.prog W 0 (fun _ => true) true fuel t [v] = some (d, p) := by
 obtain ⟨fuel, hf⟩ := h
 obtain ⟨A, n, c, rfl⟩ := okWide_slice ht hv
 exact ⟨fuel, hf⟩
theorem strings_openB {r : Reach} {b0 : Nat} {v : Value} {d : DataW H} {p : List MemPlace} (hv : Value.okWide Tryz.prog W r b0 26 v) (h : DataW.Trod enc Tryz.prog W 0 (fun _ => true) true 26 v d p) : ∃ l, StrsV W W.heap.size v l ∧ GS l (Rows.uptoBulk d) := by
 obtain ⟨fuel, hf⟩ := slice_openG Tryz.underlying26 hv h
 exact strs_openB hf
end
end Go.Proofs.YtbkkchhimhlhcaaGreatDoor
